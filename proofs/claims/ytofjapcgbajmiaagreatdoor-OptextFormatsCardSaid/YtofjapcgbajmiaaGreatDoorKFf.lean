/- Walks and plain laws that the proof of the law OptextFormats stands on. No condition beyond those that each states. -/
import Derived.Test.YtofjapcgbajmiaaGreatDoorKFe
namespace Go.Proofs.YtofjapcgbajmiaaGreatDoor
open Go.RowKit
set_option maxRecDepth 100000
set_option maxHeartbeats 32000000
theorem ractions_any (p : ProgD) (w : World) (o : ProgOk w p) :
  Calls Tryz.prog 53 #[.agg (progCells p)] w fun e w' => e = .returned (dgV (actsM p)) ∧ Below w.heap.size w w' := by
 have HO := hi_ o
 have HR := hi_ (actsM.eq_1 p)
 obtain ⟨W, hW, hw, HB, hp, hQ⟩ := boxD w p
 have HW := hi_ hw
 have HQ := hi_ hQ
 clear hQ
 by_cases h0 : p.actions.l.length = 0
 ·
  have h0' : ¬ (0 : Int) < (p.actions.l.length : Int) := by omega
  replace HR : Hid (actsM p = none) := hi_ (by rw [HR.out, h0]; rfl)
  clear o hw h0
  go_enter Tryz.func53, Tryz.ntmps53
  go_upto_region 1 with fail
  rw [← hW]
  clear hW
  have hp3 := hp W HB
  go_wp2
  refine wp_loop_rounds 1 ?_
  rw [rounds_succ]
  go_wp2
  refine bodyPost_ret (v := .agg #[.int .i64 (0), .int .i64 (0), .int .i64 (0), .int .i64 (0)]) ?_ rfl ?_
  · exact results_cell_row (fn := Tryz.f53) (p := 2) (ty := 70) rfl _ _ (w.heap.size + 1) 70 #[.int .i64 (0), .int .i64 (0), .int .i64 (0), .int .i64 (0)] (0, 0) _ rfl (put_diag (HQ.out _ HB) _ _ _ _) Tryz.underlying70 rfl (by kernel_rfl)
  · exact ⟨by first | (rw [HR.out]; done) | (rw [HR.out]; rfl), put_below (below_step HW.out HB) (Nat.le_succ _) _ _ _ _⟩
 have hmx : p.actions.l.length ≤ 9223372036854775807 := o.actions.1
 obtain ⟨g, of, hA, hall⟩ := ActD.allA (o.actions.below hw (Nat.le_refl _)) (show 0 < p.actions.l.length by omega)
 have HAL := hi_ hall
 have HAA := hi_ hA
 simp only [progCells, hA] at hp hW ⊢
 clear o hw hA hall h0
 have HB1 := hi_ HB
 have HS := hi_ (actAtM_at p)
 have HCs := hi_ (fun u (hb : Below W.heap.size W u) i hi => ractionCheck_any p i hi u (HO.out.below (below_step HW.out hb)))
 simp only [progCells, HAA.out] at HCs
 go_enter Tryz.func53, Tryz.ntmps53
 go_upto_region 1 with fail
 rw [← hW]
 clear hW
 go_wp2
 clear HB
 go_loopw [3, 4, 5, 6] (fun iv _ _ _ wr => ∃ i : Nat, i ≤ p.actions.l.length ∧ iv = .int .i64 i ∧ (∀ j, j < i → actAtM p j = none) ∧ Below W.heap.size W wr) (fun i _ _ _ _ => p.actions.l.length - (intOf i).toNat)
 case atStart => exact ⟨0, Nat.zero_le _, rfl, fun j hj => absurd hj (Nat.not_lt_zero _), HB1.out⟩
 case round =>
 obtain ⟨i, hi, rfl, hpre, HB⟩ := hrel
 have HPre := hi_ hpre
 have hp3 := hp wr HB
 clear hpre HB1
 by_cases hlt : i < p.actions.l.length
 case neg =>
  have e : i = p.actions.l.length := by omega
  replace HR := hi_ (HR.out.trans (show _ = none by rw [firstE_none (by rw [← e]; exact HPre.out)]))
  go_wp2
  refine bodyPost_ret (v := .agg #[.int .i64 (0), .int .i64 (0), .int .i64 (0), .int .i64 (0)]) ?_ rfl ?_
  · exact results_cell_row (fn := Tryz.f53) (p := 2) (ty := 70) rfl _ _ (w.heap.size + 1) 70 #[.int .i64 (0), .int .i64 (0), .int .i64 (0), .int .i64 (0)] (0, 0) _ rfl (put_diag (HQ.out _ HB) _ _ _ _) Tryz.underlying70 rfl (by kernel_rfl)
  · exact ⟨by first | (rw [HR.out]; done) | (rw [HR.out]; rfl), put_below (below_step HW.out HB) (Nat.le_succ _) _ _ _ _⟩
 have HF := hi_ (HS.out i hlt)
 have HD := hi_ (dup_tells (f := ActD.name) hlt)
 have HALi := hi_ (fun w' h => HAL.out w' h i hlt)
 have HCk := hi_ (fun u hb => HCs.out u hb i hlt)
 clear HCs
 generalize p.actions.l[i] = y at *
 go_wp2_with fail
 refine (HCk.out _ (by first | exact HB | exact ba1 HB | exact ba2 HB | exact ba3 HB)).mono ?_
 rintro e w1 ⟨rfl, hbN⟩
 replace HB := below_step (by first | exact HB | exact ba1 HB | exact ba2 HB | exact ba3 HB) hbN
 clear hbN
 generalize actM p y = r at *
 obtain ⟨sb, c⟩ := r
 simp only at HF
 clear hp3
 have hp3 := hp _ HB
 by_cases k1 : c = 0
 case neg =>
  have k1' : (c == 0) = false := bf_ k1
  replace HR := hi_ (HR.out.trans (firstE_some hlt HPre.out (HF.out.trans (if_pos k1))))
  clear k1
  go_wp2_with fail
  refine (rat_any c 4 i sb _).mono ?_
  rintro e w2 ⟨rfl, hbN⟩
  replace HB := below_step (by first | exact HB | exact ba1 HB | exact ba2 HB | exact ba3 HB) hbN
  clear hbN
  clear hp3
  have hp3 := hp _ HB
  go_wp2
  refine bodyPost_ret (v := .agg #[.int .i64 (c), .int .i64 (4), .int .i64 (i), .int .i64 (sb)]) ?_ rfl ?_
  · exact results_cell_row (fn := Tryz.f53) (p := 2) (ty := 70) rfl _ _ (w.heap.size + 1) 70 #[.int .i64 (c), .int .i64 (4), .int .i64 (i), .int .i64 (sb)] (0, 0) _ rfl (put_diag (HQ.out _ HB) _ _ _ _) Tryz.underlying70 rfl (by kernel_rfl)
  · exact ⟨by first | (rw [HR.out]; done) | (rw [HR.out]; rfl), put_below (below_step HW.out HB) (Nat.le_succ _) _ _ _ _⟩
 subst k1
 replace HF := tr_ HF (if_neg (fun h => h rfl))
 have HB0 := hi_ HB
 go_wp2
 clear HB hp3
 go_loopw [6] (fun kv wr => ∃ (k : Nat), k ≤ i ∧ kv = .int .i64 k ∧ Hid (∀ j (hj : j < p.actions.l.length), j < k → p.actions.l[j].name ≠ y.name) ∧ Below W.heap.size W wr) (fun k _ => i - (intOf k).toNat)
 case atStart => exact ⟨0, Nat.zero_le _, rfl, hi_ (fun j _ hj => absurd hj (Nat.not_lt_zero _)), HB0.out⟩
 case round =>
 clear HB0
 obtain ⟨k, hk, rfl, HN, HB⟩ := hrel
 have d := (HALi.out _ HB).1
 have hp3 := hp _ HB
 by_cases hki : k < i
 ·
  have hkl : k < p.actions.l.length := by omega
  have hkl' : (k : Int) < (p.actions.l.length : Int) := by omega
  have hil' : (i : Int) < (p.actions.l.length : Int) := by omega
  have e1 := (HAL.out _ HB k hkl).1
  have HY : Hid (p.actions.l[k].name = y.name → dupB (p.actions.l.map ActD.name) i = true) := hi_ (fun e => HD.out.1 k hkl hki e)
  have HZ : Hid (p.actions.l[k].name ≠ y.name → ∀ j (hj : j < p.actions.l.length), j < k + 1 → p.actions.l[j].name ≠ y.name) := hi_ (fun hne => pre_ne (f := fun _ (a : ActD) => a.name ≠ y.name) HN.out hne)
  generalize p.actions.l[k].name = t at *
  by_cases ht : t = y.name
  ·
   have ht' := toList_true ht
   replace HR := hi_ (HR.out.trans (firstE_some hlt HPre.out (HF.out.trans (if_pos (HY.out ht)))))
   clear ht HY HZ
   go_wp2
   go_quiet (fail)
   replace HB := below_drewN HB nq
   go_wp2_with fail
   refine (rat_any 7 4 i 0 _).mono ?_
   rintro e w2 ⟨rfl, hbN⟩
   replace HB := below_step (by first | exact HB | exact ba1 HB | exact ba2 HB | exact ba3 HB) hbN
   clear hbN
   clear hp3
   have hp3 := hp _ HB
   go_wp2
   refine bodyPost_ret (v := .agg #[.int .i64 (7), .int .i64 (4), .int .i64 (i), .int .i64 (0)]) ?_ rfl ?_
   · exact results_cell_row (fn := Tryz.f53) (p := 2) (ty := 70) rfl _ _ (w.heap.size + 1) 70 #[.int .i64 (7), .int .i64 (4), .int .i64 (i), .int .i64 (0)] (0, 0) _ rfl (put_diag (HQ.out _ HB) _ _ _ _) Tryz.underlying70 rfl (by kernel_rfl)
   · exact ⟨by first | (rw [HR.out]; done) | (rw [HR.out]; rfl), put_below (below_step HW.out HB) (Nat.le_succ _) _ _ _ _⟩
  ·
   have HZ2 := hi_ (HZ.out ht)
   have ht' := toList_false ht
   clear ht HY HZ
   go_wp2
   go_quiet (fail)
   go_wp2
   go_roundw
   case rel => exact ⟨k + 1, by omega, by go_num, HZ2, below_drewN HB _⟩
   case measure => simp [intOf]; omega
 ·
  have e : k = i := by omega
  subst e
  have HP2 := hi_ (pre_step HPre.out (HF.out.trans (if_neg (by rw [HD.out.2 HN.out]; simp))))
  go_wp2
  go_roundw
  case rel => exact ⟨k + 1, by omega, by go_num, HP2.out, HB⟩
  case measure => simp [intOf]; omega
theorem rtables_any (p : ProgD) (w : World) (o : ProgOk w p) (hc : ∀ t ∈ p.tables.l, ∀ v ∈ t.args.l, (Lit.int .u32 v).wf = true) :
  Calls Tryz.prog 54 #[.agg (progCells p)] w fun e w' => e = .returned (dgV (tabsM p)) ∧ Below w.heap.size w w' := by
 have HO := hi_ o
 have HR := hi_ (tabsM.eq_1 p)
 obtain ⟨W, hW, hw, HB, hp, hQ⟩ := boxD w p
 have HW := hi_ hw
 have HQ := hi_ hQ
 clear hQ
 by_cases h0 : p.tables.l.length = 0
 ·
  have h0' : ¬ (0 : Int) < (p.tables.l.length : Int) := by omega
  replace HR : Hid (tabsM p = none) := hi_ (by rw [HR.out, h0]; rfl)
  clear o hw h0
  go_enter Tryz.func54, Tryz.ntmps54
  go_upto_region 1 with fail
  rw [← hW]
  clear hW
  have hp3 := hp W HB
  go_wp2
  refine wp_loop_rounds 1 ?_
  rw [rounds_succ]
  go_wp2
  refine bodyPost_ret (v := .agg #[.int .i64 (0), .int .i64 (0), .int .i64 (0), .int .i64 (0)]) ?_ rfl ?_
  · exact results_cell_row (fn := Tryz.f54) (p := 2) (ty := 70) rfl _ _ (w.heap.size + 1) 70 #[.int .i64 (0), .int .i64 (0), .int .i64 (0), .int .i64 (0)] (0, 0) _ rfl (put_diag (HQ.out _ HB) _ _ _ _) Tryz.underlying70 rfl (by kernel_rfl)
  · exact ⟨by first | (rw [HR.out]; done) | (rw [HR.out]; rfl), put_below (below_step HW.out HB) (Nat.le_succ _) _ _ _ _⟩
 have hmx : p.tables.l.length ≤ 9223372036854775807 := o.tables.1
 obtain ⟨g, of, hA, hall⟩ := TabD.allA (o.tables.below hw (Nat.le_refl _)) (show 0 < p.tables.l.length by omega)
 have HAL := hi_ hall
 have HAA := hi_ hA
 simp only [progCells, hA] at hp hW ⊢
 clear o hw hA hall h0
 have HB1 := hi_ HB
 have HS := hi_ (tabAtM_at p)
 have HCs := hi_ (fun u (hb : Below W.heap.size W u) i hi => rtableCheck_any p i hi u (HO.out.below (below_step HW.out hb)) hc)
 simp only [progCells, HAA.out] at HCs
 clear hc
 go_enter Tryz.func54, Tryz.ntmps54
 go_upto_region 1 with fail
 rw [← hW]
 clear hW
 go_wp2
 clear HB
 go_loopw [3, 4, 5, 6] (fun iv _ _ _ wr => ∃ i : Nat, i ≤ p.tables.l.length ∧ iv = .int .i64 i ∧ (∀ j, j < i → tabAtM p j = none) ∧ Below W.heap.size W wr) (fun i _ _ _ _ => p.tables.l.length - (intOf i).toNat)
 case atStart => exact ⟨0, Nat.zero_le _, rfl, fun j hj => absurd hj (Nat.not_lt_zero _), HB1.out⟩
 case round =>
 obtain ⟨i, hi, rfl, hpre, HB⟩ := hrel
 have HPre := hi_ hpre
 have hp3 := hp wr HB
 clear hpre HB1
 by_cases hlt : i < p.tables.l.length
 case neg =>
  have e : i = p.tables.l.length := by omega
  replace HR := hi_ (HR.out.trans (show _ = none by rw [firstE_none (by rw [← e]; exact HPre.out)]))
  go_wp2
  refine bodyPost_ret (v := .agg #[.int .i64 (0), .int .i64 (0), .int .i64 (0), .int .i64 (0)]) ?_ rfl ?_
  · exact results_cell_row (fn := Tryz.f54) (p := 2) (ty := 70) rfl _ _ (w.heap.size + 1) 70 #[.int .i64 (0), .int .i64 (0), .int .i64 (0), .int .i64 (0)] (0, 0) _ rfl (put_diag (HQ.out _ HB) _ _ _ _) Tryz.underlying70 rfl (by kernel_rfl)
  · exact ⟨by first | (rw [HR.out]; done) | (rw [HR.out]; rfl), put_below (below_step HW.out HB) (Nat.le_succ _) _ _ _ _⟩
 have HF := hi_ (HS.out i hlt)
 have HD := hi_ (dup_tells (f := TabD.name) hlt)
 have HALi := hi_ (fun w' h => HAL.out w' h i hlt)
 have HCk := hi_ (fun u hb => HCs.out u hb i hlt)
 clear HCs
 generalize p.tables.l[i] = y at *
 go_wp2_with fail
 refine (HCk.out _ (by first | exact HB | exact ba1 HB | exact ba2 HB | exact ba3 HB)).mono ?_
 rintro e w1 ⟨rfl, hbN⟩
 replace HB := below_step (by first | exact HB | exact ba1 HB | exact ba2 HB | exact ba3 HB) hbN
 clear hbN
 generalize tabM p y = r at *
 obtain ⟨sb, c⟩ := r
 simp only at HF
 clear hp3
 have hp3 := hp _ HB
 by_cases k1 : c = 0
 case neg =>
  have k1' : (c == 0) = false := bf_ k1
  replace HR := hi_ (HR.out.trans (firstE_some hlt HPre.out (HF.out.trans (if_pos k1))))
  clear k1
  go_wp2_with fail
  refine (rat_any c 5 i sb _).mono ?_
  rintro e w2 ⟨rfl, hbN⟩
  replace HB := below_step (by first | exact HB | exact ba1 HB | exact ba2 HB | exact ba3 HB) hbN
  clear hbN
  clear hp3
  have hp3 := hp _ HB
  go_wp2
  refine bodyPost_ret (v := .agg #[.int .i64 (c), .int .i64 (5), .int .i64 (i), .int .i64 (sb)]) ?_ rfl ?_
  · exact results_cell_row (fn := Tryz.f54) (p := 2) (ty := 70) rfl _ _ (w.heap.size + 1) 70 #[.int .i64 (c), .int .i64 (5), .int .i64 (i), .int .i64 (sb)] (0, 0) _ rfl (put_diag (HQ.out _ HB) _ _ _ _) Tryz.underlying70 rfl (by kernel_rfl)
  · exact ⟨by first | (rw [HR.out]; done) | (rw [HR.out]; rfl), put_below (below_step HW.out HB) (Nat.le_succ _) _ _ _ _⟩
 subst k1
 replace HF := tr_ HF (if_neg (fun h => h rfl))
 have HB0 := hi_ HB
 go_wp2
 clear HB hp3
 go_loopw [6] (fun kv wr => ∃ (k : Nat), k ≤ i ∧ kv = .int .i64 k ∧ Hid (∀ j (hj : j < p.tables.l.length), j < k → p.tables.l[j].name ≠ y.name) ∧ Below W.heap.size W wr) (fun k _ => i - (intOf k).toNat)
 case atStart => exact ⟨0, Nat.zero_le _, rfl, hi_ (fun j _ hj => absurd hj (Nat.not_lt_zero _)), HB0.out⟩
 case round =>
 clear HB0
 obtain ⟨k, hk, rfl, HN, HB⟩ := hrel
 have d := (HALi.out _ HB).1
 have hp3 := hp _ HB
 by_cases hki : k < i
 ·
  have hkl : k < p.tables.l.length := by omega
  have hkl' : (k : Int) < (p.tables.l.length : Int) := by omega
  have hil' : (i : Int) < (p.tables.l.length : Int) := by omega
  have e1 := (HAL.out _ HB k hkl).1
  have HY : Hid (p.tables.l[k].name = y.name → dupB (p.tables.l.map TabD.name) i = true) := hi_ (fun e => HD.out.1 k hkl hki e)
  have HZ : Hid (p.tables.l[k].name ≠ y.name → ∀ j (hj : j < p.tables.l.length), j < k + 1 → p.tables.l[j].name ≠ y.name) := hi_ (fun hne => pre_ne (f := fun _ (a : TabD) => a.name ≠ y.name) HN.out hne)
  generalize p.tables.l[k].name = t at *
  by_cases ht : t = y.name
  ·
   have ht' := toList_true ht
   replace HR := hi_ (HR.out.trans (firstE_some hlt HPre.out (HF.out.trans (if_pos (HY.out ht)))))
   clear ht HY HZ
   go_wp2
   go_quiet (fail)
   replace HB := below_drewN HB nq
   go_wp2_with fail
   refine (rat_any 7 5 i 0 _).mono ?_
   rintro e w2 ⟨rfl, hbN⟩
   replace HB := below_step (by first | exact HB | exact ba1 HB | exact ba2 HB | exact ba3 HB) hbN
   clear hbN
   clear hp3
   have hp3 := hp _ HB
   go_wp2
   refine bodyPost_ret (v := .agg #[.int .i64 (7), .int .i64 (5), .int .i64 (i), .int .i64 (0)]) ?_ rfl ?_
   · exact results_cell_row (fn := Tryz.f54) (p := 2) (ty := 70) rfl _ _ (w.heap.size + 1) 70 #[.int .i64 (7), .int .i64 (5), .int .i64 (i), .int .i64 (0)] (0, 0) _ rfl (put_diag (HQ.out _ HB) _ _ _ _) Tryz.underlying70 rfl (by kernel_rfl)
   · exact ⟨by first | (rw [HR.out]; done) | (rw [HR.out]; rfl), put_below (below_step HW.out HB) (Nat.le_succ _) _ _ _ _⟩
  ·
   have HZ2 := hi_ (HZ.out ht)
   have ht' := toList_false ht
   clear ht HY HZ
   go_wp2
   go_quiet (fail)
   go_wp2
   go_roundw
   case rel => exact ⟨k + 1, by omega, by go_num, HZ2, below_drewN HB _⟩
   case measure => simp [intOf]; omega
 ·
  have e : k = i := by omega
  subst e
  have HP2 := hi_ (pre_step HPre.out (HF.out.trans (if_neg (by rw [HD.out.2 HN.out]; simp))))
  go_wp2
  go_roundw
  case rel => exact ⟨k + 1, by omega, by go_num, HP2.out, HB⟩
  case measure => simp [intOf]; omega
def fldE (l : List FieldD) (i : Nat) : Int := (fldM l i).getD 0
theorem fldE_none {l : List FieldD} {i : Nat} (h : fldM l i = none) : fldE l i = 0 := by rw [fldE, h]; rfl
theorem fldE_some {l : List FieldD} {i : Nat} {e : Int} (h : fldM l i = some e) : fldE l i = e := by rw [fldE, h]; rfl
theorem fldE_mAt (l : List FieldD) (i : Nat) (hi : i < l.length) : mAt l i = if fldE l i ≠ 0 then some ⟨fldE l i, 2, i, 0⟩ else none := by
 rcases h : fldM l i with _ | e
 · rw [mAt_none h, fldE_none h]; rfl
 ·
  rw [mAt_some h, fldE_some h]
  have hn : e ≠ 0 := by
   rw [fldM_at l i hi] at h
   split at h
   · cases h; decide
   ·
    split at h
    · cases h; decide
    ·
     split at h
     · cases h; decide
     · cases h
  rw [if_pos hn]
theorem rfield_any (x : L FieldD) (i : Nat) (hi : i < x.l.length) (w : World) (h : LOk w 2 FieldD.cells x) (hn : ∀ f ∈ x.l, f.name.size ≤ maxLen) :
  Calls Tryz.prog 112 #[.slice x.A x.l.length x.c, .int .i64 i] w fun e w' => e = .returned (.int .i64 (fldE x.l i)) ∧ Below w.heap.size w w' := by
 obtain ⟨l, A0, c0⟩ := x
 have HX := hi_ h
 have HN := hi_ hn
 have hmx : l.length ≤ 9223372036854775807 := h.1
 clear h hn
 simp only at hi HN ⊢
 obtain ⟨g, of, hA, hall⟩ := FieldD.allA HX.out (show 0 < l.length by omega)
 simp only at hA hall
 subst hA
 have HAL := hi_ hall
 have HALi := hi_ (fun w' h => hall w' h i hi)
 have HF := hi_ (fldM_at l i hi)
 have HNk := hi_ (HN.out _ (List.getElem_mem hi))
 have HD := hi_ (dup_tells (f := FieldD.name) hi)
 have hil : (i : Int) < (l.length : Int) := by omega
 clear hall
 generalize l[i] = y at *
 obtain ⟨yn, yw⟩ := y
 simp only at HALi HF HNk HD
 obtain ⟨d0, d1⟩ := HALi.out w (Below.refl _ _)
 go_enter Tryz.func112, Tryz.ntmps112
 go_wp2_with fail
 refine (risIdent_any yn _ HNk.out).mono ?_
 rintro e w' ⟨rfl, rfl⟩
 cases h1 : identM yn.data.toList
 ·
  have HR := hi_ (fldE_some (HF.out.trans (if_pos (show ident yn = false from h1))))
  go_wp2
  go_ret
  exact ⟨by rw [HR.out]; rfl, Below.refl _ _⟩
 have HF1 := tr_ HF (if_neg (show ¬ ident yn = false by rw [show ident yn = true from h1]; simp))
 clear HF h1
 by_cases k1 : yw < 1
 ·
  have HR := hi_ (fldE_some (HF1.out.trans (if_pos (okW_not.2 (.inl k1)))))
  go_wp2
  go_ret
  exact ⟨by rw [HR.out]; rfl, Below.refl _ _⟩
 by_cases k2 : 32 < yw
 ·
  have HR := hi_ (fldE_some (HF1.out.trans (if_pos (okW_not.2 (.inr k2)))))
  go_wp2
  go_ret
  exact ⟨by rw [HR.out]; rfl, Below.refl _ _⟩
 have HF2 := tr_ HF1 (if_neg (by rw [okW_iff.2 ⟨by omega, by omega⟩]; simp))
 clear HF1
 go_wp2
 clear d0 d1
 go_loopw [5] (fun iv wr => ∃ k : Nat, k ≤ i ∧ iv = .int .i64 k ∧ Hid (∀ j (hj : j < l.length), j < k → l[j].name ≠ yn) ∧ Below w.heap.size w wr) (fun k _ => i - (intOf k).toNat)
 case atStart => exact ⟨0, Nat.zero_le _, rfl, hi_ (fun j _ hj => absurd hj (Nat.not_lt_zero _)), Below.refl _ _⟩
 case round =>
 obtain ⟨k, hk, rfl, HK, HB⟩ := hrel
 obtain ⟨d0, d1⟩ := HALi.out _ HB
 by_cases hki : k < i
 ·
  have hkl : k < l.length := by omega
  have hkl' : (k : Int) < (l.length : Int) := by omega
  obtain ⟨e0, e1⟩ := HAL.out _ HB k hkl
  have HY : Hid (l[k].name = yn → dupB (l.map FieldD.name) i = true) := hi_ (fun e => HD.out.1 k hkl hki e)
  have HZ : Hid (l[k].name ≠ yn → ∀ j (hj : j < l.length), j < k + 1 → l[j].name ≠ yn) := hi_ (fun hne => pre_ne (f := fun _ (a : FieldD) => a.name ≠ yn) HK.out hne)
  generalize l[k].name = t at *
  by_cases ht : t = yn
  ·
   have HR := hi_ (fldE_some (HF2.out.trans (if_pos (HY.out ht))))
   have ht' := toList_true ht
   clear ht HY HZ
   go_wp2
   go_quiet (fail)
   go_wp2
   go_ret
   exact ⟨by rw [HR.out]; rfl, below_drewN HB _⟩
  ·
   have HZ2 := hi_ (HZ.out ht)
   have ht' := toList_false ht
   clear ht HY HZ
   go_wp2
   go_quiet (fail)
   go_wp2
   go_roundw
   case rel => exact ⟨k + 1, by omega, by go_num, HZ2, below_drewN HB _⟩
   case measure => simp [intOf]; omega
 ·
  have e : k = i := by omega
  subst e
  have HR := hi_ (fldE_none (HF2.out.trans (if_neg (by rw [HD.out.2 HK.out]; simp))))
  go_wp2
  go_ret
  exact ⟨by rw [HR.out]; rfl, HB⟩
theorem isWant_at {l : List FieldD} {k : Nat} (h : k < l.length) (h3 : k < metaWant.length) : isWant l k = true ↔ l[k] = metaWant[k] := by
 rw [isWant, List.getElem?_eq_getElem h, List.getElem?_eq_getElem h3]
 simp only [Bool.and_eq_true, decide_eq_true_eq]
 constructor
 ·
  rintro ⟨h1, h2⟩
  have : ∀ a b : FieldD, a.name = b.name → a.width = b.width → a = b := by
   rintro ⟨a, b⟩ ⟨c, d⟩ rfl rfl; rfl
  exact this _ _ h1 h2
 ·
  intro e
  rw [e]; exact ⟨rfl, rfl⟩
theorem want_lok (w : World) : LOk (w.alloc (.cells #[.string ⟨#[105, 110]⟩, .int .i64 8, .string ⟨#[111, 117, 116]⟩, .int .i64 8, .string ⟨#[100, 114, 111, 112]⟩, .int .i64 1] 104)) 2 FieldD.cells ⟨metaWant, some ⟨w.heap.size, 0, none⟩, 3⟩ := by
 refine ⟨by unfold maxLen metaWant; simp, .inr ⟨w.heap.size, 0, rfl, by simp, fun i hi j hj => ?_⟩⟩
 have hi3 : i < 3 := hi
 match i, hi3, j, hj with
 | 0, _, 0, _ => simp [metaWant, FieldD.cells]
 | 0, _, 1, _ => simp [metaWant, FieldD.cells]
 | 1, _, 0, _ => simp [metaWant, FieldD.cells]
 | 1, _, 1, _ => simp [metaWant, FieldD.cells]
 | 2, _, 0, _ => simp [metaWant, FieldD.cells]
 | 2, _, 1, _ => simp [metaWant, FieldD.cells]
theorem rmetadata_any (p : ProgD) (w : World) (o : ProgOk w p) :
    Calls Tryz.prog 51 #[.agg (progCells p)] w fun e w' => e = .returned (dgV (metaM p)) ∧ Below w.heap.size w w' := by
  have HO := hi_ o
  have HR := hi_ (metaM_eq p)
  obtain ⟨W, hW, hw, HB, hp, hQ⟩ := boxD w p
  have HW := hi_ hw
  have HQ := hi_ hQ
  have HX := hi_ (o.metadata.below hw (Nat.le_refl _))
  have HN : Hid (∀ f ∈ p.metadata.l, f.name.size ≤ maxLen) := hi_ o.mnames
  have HS := hi_ (fldE_mAt p.metadata.l)
  clear hQ o hw
  simp only [progCells] at hp hW ⊢
  generalize hx : p.metadata = x at *
  clear hx
  obtain ⟨l, A0, c0⟩ := x
  simp only at HR HX hp HN HS ⊢
  have hmx : l.length ≤ 9223372036854775807 := HX.out.1
  by_cases h12 : 12 < l.length
  · replace HR := tr_ HR (if_pos h12)
    go_enter Tryz.func51, Tryz.ntmps51
    go_upto_region 1 with fail
    rw [← hW]
    clear hW
    have hp3 := hp W HB
    go_wp2_with fail
    refine (rat_any 12 2 0 0 _).mono ?_
    rintro e w1 ⟨rfl, hbN⟩
    replace HB := below_step (by first | exact HB | exact ba1 HB | exact ba2 HB | exact ba3 HB) hbN
    clear hbN
    replace hp3 := hp _ HB
    go_wp2
    refine bodyPost_ret (v := .agg #[.int .i64 (12), .int .i64 (2), .int .i64 (0), .int .i64 (0)]) ?_ rfl ?_
    · exact results_cell_row (fn := Tryz.f51) (p := 2) (ty := 70) rfl _ _ (w.heap.size + 1) 70 #[.int .i64 (12), .int .i64 (2), .int .i64 (0), .int .i64 (0)] (0, 0) _ rfl (put_diag (HQ.out _ HB) _ _ _ _) Tryz.underlying70 rfl (by kernel_rfl)
    · exact ⟨by first | (rw [HR.out]; done) | (rw [HR.out]; rfl), put_below (below_step HW.out HB) (Nat.le_succ _) _ _ _ _⟩
  replace HR := tr_ HR (if_neg h12)
  have h12' : l.length ≤ 12 := by omega
  clear h12
  have HB1 := hi_ HB
  go_enter Tryz.func51, Tryz.ntmps51
  go_upto_region 1 with fail
  rw [← hW]
  clear hW
  have hp3 := hp W HB
  go_wp2
  clear HB hp3
  go_loopw [3, 4] (fun iv _ wr => ∃ i : Nat, i ≤ l.length ∧ iv = .int .i64 i ∧ (∀ j, j < i → mAt l j = none) ∧ Below W.heap.size W wr) (fun i _ _ => l.length - (intOf i).toNat)
  case atStart => exact ⟨0, Nat.zero_le _, rfl, fun j hj => absurd hj (Nat.not_lt_zero _), HB1.out⟩
  case round =>
  obtain ⟨i, hi, rfl, hpre, HB⟩ := hrel
  have HPre := hi_ hpre
  have hp3 := hp wr HB
  clear hpre HB1
  by_cases hlt : i < l.length
  · have HE := hi_ (HS.out i hlt)
    have HFk := hi_ (fun u (hb : Below W.heap.size W u) => rfield_any ⟨l, A0, c0⟩ i hlt u (HX.out.below hb (Nat.le_refl _)) HN.out)
    have hlt' : (i : Int) < (l.length : Int) := by omega
    simp only at HFk
    go_wp2_with fail
    refine (HFk.out _ (by first | exact HB | exact ba1 HB | exact ba2 HB | exact ba3 HB)).mono ?_
    rintro e w1 ⟨rfl, hbN⟩
    replace HB := below_step (by first | exact HB | exact ba1 HB | exact ba2 HB | exact ba3 HB) hbN
    clear hbN
    generalize fldE l i = c at *
    clear hp3
    have hp3 := hp _ HB
    by_cases k1 : c = 0
    · subst k1
      have HP2 := hi_ (pre_step HPre.out (HE.out.trans (if_neg (fun h => h rfl))))
      go_wp2
      go_roundw
      case rel => exact ⟨i + 1, by omega, by go_num, HP2.out, HB⟩
      case measure => simp [intOf]; omega
    · have k1' : (c == 0) = false := bf_ k1
      replace HR := hi_ (HR.out.trans (show _ = some (⟨c, 2, i, 0⟩ : DiagD) by rw [firstE_some hlt HPre.out (HE.out.trans (if_pos k1))]))
      clear k1
      go_wp2_with fail
      refine (rat_any c 2 i 0 _).mono ?_
      rintro e w2 ⟨rfl, hbN⟩
      replace HB := below_step (by first | exact HB | exact ba1 HB | exact ba2 HB | exact ba3 HB) hbN
      clear hbN
      clear hp3
      have hp3 := hp _ HB
      go_wp2
      refine bodyPost_ret (v := .agg #[.int .i64 (c), .int .i64 (2), .int .i64 (i), .int .i64 (0)]) ?_ rfl ?_
      · exact results_cell_row (fn := Tryz.f51) (p := 2) (ty := 70) rfl _ _ (w.heap.size + 1) 70 #[.int .i64 (c), .int .i64 (2), .int .i64 (i), .int .i64 (0)] (0, 0) _ rfl (put_diag (HQ.out _ HB) _ _ _ _) Tryz.underlying70 rfl (by kernel_rfl)
      · exact ⟨by first | (rw [HR.out]; done) | (rw [HR.out]; rfl), put_below (below_step HW.out HB) (Nat.le_succ _) _ _ _ _⟩
  have e : i = l.length := by omega
  have HR2 := hi_ (HR.out.trans (show _ = firstE 3 (wAt l) by rw [firstE_none (by rw [← e]; exact HPre.out)]))
  clear HR
  have hlt' : ¬ (i : Int) < (l.length : Int) := by omega
  obtain ⟨V, hV⟩ : ∃ V, V = wr.alloc (.cells #[.string ⟨#[105, 110]⟩, .int .i64 8, .string ⟨#[111, 117, 116]⟩, .int .i64 8, .string ⟨#[100, 114, 111, 112]⟩, .int .i64 1] 104) := ⟨_, rfl⟩
  have HBV : Hid (Below W.heap.size W V) := hi_ (by rw [hV]; exact below_alloc HB _)
  have HWn : Hid (LOk V 2 FieldD.cells ⟨metaWant, some ⟨wr.heap.size, 0, none⟩, 3⟩) := hi_ (by rw [hV]; exact want_lok wr)
  go_wp2
  rw [← hV]
  clear hV HB hp3 HPre HS hlt e hlt'
  generalize wr.heap.size = kv at *
  go_loopw [6] (fun iv wr => ∃ i : Nat, i ≤ 3 ∧ iv = .int .i64 i ∧ (∀ j, j < i → wAt l j = none) ∧ Below V.heap.size V wr) (fun i _ => 3 - (intOf i).toNat)
  case atStart => exact ⟨0, Nat.zero_le _, rfl, fun j hj => absurd hj (Nat.not_lt_zero _), Below.refl _ _⟩
  case round =>
  obtain ⟨k, hk, rfl, hpre, HB2⟩ := hrel
  have HB := below_step HBV.out HB2
  have HPre := hi_ hpre
  have hp3 := hp _ HB
  clear hpre
  by_cases hk3 : k < 3
  case neg =>
    have e : k = 3 := by omega
    subst e
    have HR : Hid (metaM p = none) := hi_ (HR2.out.trans (firstE_none HPre.out))
    clear hk hk3
    go_wp2
    refine bodyPost_ret (v := .agg #[.int .i64 (0), .int .i64 (0), .int .i64 (0), .int .i64 (0)]) ?_ rfl ?_
    · exact results_cell_row (fn := Tryz.f51) (p := 2) (ty := 70) rfl _ _ (w.heap.size + 1) 70 #[.int .i64 (0), .int .i64 (0), .int .i64 (0), .int .i64 (0)] (0, 0) _ rfl (put_diag (HQ.out _ HB) _ _ _ _) Tryz.underlying70 rfl (by kernel_rfl)
    · exact ⟨by first | (rw [HR.out]; done) | (rw [HR.out]; rfl), put_below (below_step HW.out HB) (Nat.le_succ _) _ _ _ _⟩
  have hk3' : (k : Int) < 3 := by omega
  obtain ⟨gw, ow, hAw, f0, f1⟩ := FieldD.at (HWn.out.below HB2 (Nat.le_refl _)) (show k < metaWant.length from hk3)
  simp only at hAw f0 f1
  obtain ⟨rfl, rfl⟩ : kv = gw ∧ 0 = ow := by cases hAw; exact ⟨rfl, rfl⟩
  clear hAw
  rw [Nat.zero_add] at f0 f1
  by_cases hkl : k < l.length
  case neg =>
    have HR := hi_ (HR2.out.trans (firstE_some hk3 HPre.out (wAt_some (want_out (by omega)))))
    have b1 : decide ((l.length : Int) ≤ (k : Int)) = true := decide_eq_true (by omega)
    have b2 : (l.length : Int) ≤ (k : Int) := by omega
    go_wp2
    go_quiet (fail)
    replace HB := below_drewN HB nq
    clear hp3
    generalize World.drewN wr nq = wq at *
    have hp3 := hp _ HB
    go_wp2_with fail
    refine (rat_any 5 2 k 0 _).mono ?_
    rintro e w2 ⟨rfl, hbN⟩
    replace HB := below_step (by first | exact HB | exact ba1 HB | exact ba2 HB | exact ba3 HB) hbN
    clear hbN
    clear hp3
    have hp3 := hp _ HB
    go_wp2
    refine bodyPost_ret (v := .agg #[.int .i64 (5), .int .i64 (2), .int .i64 (k), .int .i64 (0)]) ?_ rfl ?_
    · exact results_cell_row (fn := Tryz.f51) (p := 2) (ty := 70) rfl _ _ (w.heap.size + 1) 70 #[.int .i64 (5), .int .i64 (2), .int .i64 (k), .int .i64 (0)] (0, 0) _ rfl (put_diag (HQ.out _ HB) _ _ _ _) Tryz.underlying70 rfl (by kernel_rfl)
    · exact ⟨by first | (rw [HR.out]; done) | (rw [HR.out]; rfl), put_below (below_step HW.out HB) (Nat.le_succ _) _ _ _ _⟩
  obtain ⟨g, of, hA, e0, e1⟩ := FieldD.at (HX.out.below HB (Nat.le_refl _)) hkl
  simp only at hA
  subst hA
  have HI := hi_ (isWant_at hkl (show k < metaWant.length from hk3))
  have hkl' : (k : Int) < (l.length : Int) := by omega
  have b1 : decide ((l.length : Int) ≤ (k : Int)) = false := decide_eq_false (by omega)
  simp only at e0 e1
  generalize l[k] = a at *
  generalize metaWant[k]'hk3 = b at *
  obtain ⟨bb, hb0, hbb⟩ := neq_field a b
  have HBB := hi_ hb0
  clear hb0
  cases bb with
  | true =>
    have HR := hi_ (HR2.out.trans (firstE_some hk3 HPre.out (wAt_some (by
      rw [← Bool.not_eq_true, HI.out]
      intro e
      have := HBB.out.2 e
      cases this))))
    go_wp2
    go_quiet (fail)
    replace HB := below_drewN HB nq
    clear hp3
    generalize World.drewN wr nq = wq at *
    have hp3 := hp _ HB
    go_wp2_with fail
    refine (rat_any 5 2 k 0 _).mono ?_
    rintro e w2 ⟨rfl, hbN⟩
    replace HB := below_step (by first | exact HB | exact ba1 HB | exact ba2 HB | exact ba3 HB) hbN
    clear hbN
    clear hp3
    have hp3 := hp _ HB
    go_wp2
    refine bodyPost_ret (v := .agg #[.int .i64 (5), .int .i64 (2), .int .i64 (k), .int .i64 (0)]) ?_ rfl ?_
    · exact results_cell_row (fn := Tryz.f51) (p := 2) (ty := 70) rfl _ _ (w.heap.size + 1) 70 #[.int .i64 (5), .int .i64 (2), .int .i64 (k), .int .i64 (0)] (0, 0) _ rfl (put_diag (HQ.out _ HB) _ _ _ _) Tryz.underlying70 rfl (by kernel_rfl)
    · exact ⟨by first | (rw [HR.out]; done) | (rw [HR.out]; rfl), put_below (below_step HW.out HB) (Nat.le_succ _) _ _ _ _⟩
  | false =>
    have HP2 := hi_ (pre_step HPre.out (wAt_none (HI.out.2 (HBB.out.1 rfl))))
    go_wp2
    go_quiet (fail)
    go_wp2
    go_roundw
    case rel => exact ⟨k + 1, by omega, by go_num, HP2.out, below_drewN HB2 _⟩
    case measure => simp [intOf]; omega
theorem flowM_eq (p : ProgD) : flowM p = if (parserM p).2.2 ≠ 0 then some ⟨(parserM p).2.2, 6, (parserM p).1, (parserM p).2.1⟩
 else if (ctlM p).2 ≠ 0 then some ⟨(ctlM p).2, 7, (ctlM p).1, 0⟩
 else if (depM p).2 ≠ 0 then some ⟨(depM p).2, 8, (depM p).1, 0⟩ else none := rfl
theorem rcode_any (p : ProgD) (w : World) (o : ProgOk w p) (hc : ∀ s ∈ p.states.l, ∀ c ∈ s.cases.l, (Lit.int .u32 c.value).wf = true ∧ (Lit.int .u32 c.mask).wf = true) (hN : (presM p.control.l).length ≤ 90000) :
  Calls Tryz.prog 55 #[.agg (progCells p)] w fun e w' => e = .returned (dgV (flowM p)) ∧ Below w.heap.size w w' := by
 have HO := hi_ o
 have HC := hi_ hc
 have HN := hi_ hN
 have HR := hi_ (flowM_eq p)
 obtain ⟨W, hW, hw, HB, hp, hQ⟩ := boxD w p
 have HW := hi_ hw
 have HQ := hi_ hQ
 have H1 := hi_ (fun u (hb : Below W.heap.size W u) => rparserCheck_any p u (HO.out.below (below_step HW.out hb)) HC.out)
 have H2 := hi_ (fun u (hb : Below W.heap.size W u) => rcontrolCheck_any p u (HO.out.below (below_step HW.out hb)) HN.out)
 have H3 := hi_ (fun u (hb : Below W.heap.size W u) => rdepCheck_any p u (HO.out.below (below_step HW.out hb)))
 clear hQ o hw hc hN
 generalize flowM p = fm at *
 generalize parserM p = r1 at *
 generalize ctlM p = r2 at *
 generalize depM p = r3 at *
 obtain ⟨a1, b1, c1⟩ := r1
 obtain ⟨a2, c2⟩ := r2
 obtain ⟨a3, c3⟩ := r3
 simp only at HR H1 H2 H3
 go_enter Tryz.func55, Tryz.ntmps55
 go_upto_region 1 with fail
 rw [← hW]
 clear hW
 have hp3 := hp W HB
 go_wp2_with fail
 refine (H1.out _ (by first | exact HB | exact ba1 HB | exact ba2 HB | exact ba3 HB)).mono ?_
 rintro e w1 ⟨rfl, hbN⟩
 replace HB := below_step (by first | exact HB | exact ba1 HB | exact ba2 HB | exact ba3 HB) hbN
 clear hbN
 clear hp3
 have hp3 := hp _ HB
 by_cases k1 : c1 = 0
 case neg =>
  have k1' : (c1 == 0) = false := bf_ k1
  replace HR := tr_ HR (if_pos k1)
  clear k1
  go_wp2_with fail
  refine (rat_any c1 6 a1 b1 _).mono ?_
  rintro e w2 ⟨rfl, hbN⟩
  replace HB := below_step (by first | exact HB | exact ba1 HB | exact ba2 HB | exact ba3 HB) hbN
  clear hbN
  clear hp3
  have hp3 := hp _ HB
  go_wp2
  refine bodyPost_ret (v := .agg #[.int .i64 (c1), .int .i64 (6), .int .i64 (a1), .int .i64 (b1)]) ?_ rfl ?_
  · exact results_cell_row (fn := Tryz.f55) (p := 2) (ty := 70) rfl _ _ (w.heap.size + 1) 70 #[.int .i64 (c1), .int .i64 (6), .int .i64 (a1), .int .i64 (b1)] (0, 0) _ rfl (put_diag (HQ.out _ HB) _ _ _ _) Tryz.underlying70 rfl (by kernel_rfl)
  · exact ⟨by first | (rw [HR.out]; done) | (rw [HR.out]; rfl), put_below (below_step HW.out HB) (Nat.le_succ _) _ _ _ _⟩
 subst k1
 replace HR := tr_ HR (if_neg (fun h => h rfl))
 go_wp2_with fail
 refine (H2.out _ (by first | exact HB | exact ba1 HB | exact ba2 HB | exact ba3 HB)).mono ?_
 rintro e w2 ⟨rfl, hbN⟩
 replace HB := below_step (by first | exact HB | exact ba1 HB | exact ba2 HB | exact ba3 HB) hbN
 clear hbN
 clear hp3
 have hp3 := hp _ HB
 by_cases k1 : c2 = 0
 case neg =>
  have k1' : (c2 == 0) = false := bf_ k1
  replace HR := tr_ HR (if_pos k1)
  clear k1
  go_wp2_with fail
  refine (rat_any c2 7 a2 0 _).mono ?_
  rintro e w3 ⟨rfl, hbN⟩
  replace HB := below_step (by first | exact HB | exact ba1 HB | exact ba2 HB | exact ba3 HB) hbN
  clear hbN
  clear hp3
  have hp3 := hp _ HB
  go_wp2
  refine bodyPost_ret (v := .agg #[.int .i64 (c2), .int .i64 (7), .int .i64 (a2), .int .i64 (0)]) ?_ rfl ?_
  · exact results_cell_row (fn := Tryz.f55) (p := 2) (ty := 70) rfl _ _ (w.heap.size + 1) 70 #[.int .i64 (c2), .int .i64 (7), .int .i64 (a2), .int .i64 (0)] (0, 0) _ rfl (put_diag (HQ.out _ HB) _ _ _ _) Tryz.underlying70 rfl (by kernel_rfl)
  · exact ⟨by first | (rw [HR.out]; done) | (rw [HR.out]; rfl), put_below (below_step HW.out HB) (Nat.le_succ _) _ _ _ _⟩
 subst k1
 replace HR := tr_ HR (if_neg (fun h => h rfl))
 go_wp2_with fail
 refine (H3.out _ (by first | exact HB | exact ba1 HB | exact ba2 HB | exact ba3 HB)).mono ?_
 rintro e w3 ⟨rfl, hbN⟩
 replace HB := below_step (by first | exact HB | exact ba1 HB | exact ba2 HB | exact ba3 HB) hbN
 clear hbN
 clear hp3
 have hp3 := hp _ HB
 by_cases k1 : c3 = 0
 case neg =>
  have k1' : (c3 == 0) = false := bf_ k1
  replace HR := tr_ HR (if_pos k1)
  clear k1
  go_wp2_with fail
  refine (rat_any c3 8 a3 0 _).mono ?_
  rintro e w4 ⟨rfl, hbN⟩
  replace HB := below_step (by first | exact HB | exact ba1 HB | exact ba2 HB | exact ba3 HB) hbN
  clear hbN
  clear hp3
  have hp3 := hp _ HB
  go_wp2
  refine bodyPost_ret (v := .agg #[.int .i64 (c3), .int .i64 (8), .int .i64 (a3), .int .i64 (0)]) ?_ rfl ?_
  · exact results_cell_row (fn := Tryz.f55) (p := 2) (ty := 70) rfl _ _ (w.heap.size + 1) 70 #[.int .i64 (c3), .int .i64 (8), .int .i64 (a3), .int .i64 (0)] (0, 0) _ rfl (put_diag (HQ.out _ HB) _ _ _ _) Tryz.underlying70 rfl (by kernel_rfl)
  · exact ⟨by first | (rw [HR.out]; done) | (rw [HR.out]; rfl), put_below (below_step HW.out HB) (Nat.le_succ _) _ _ _ _⟩
 subst k1
 replace HR := tr_ HR (if_neg (fun h => h rfl))
 go_wp2
 refine bodyPost_ret (v := .agg #[.int .i64 (0), .int .i64 (0), .int .i64 (0), .int .i64 (0)]) ?_ rfl ?_
 · exact results_cell_row (fn := Tryz.f55) (p := 2) (ty := 70) rfl _ _ (w.heap.size + 1) 70 #[.int .i64 (0), .int .i64 (0), .int .i64 (0), .int .i64 (0)] (0, 0) _ rfl (put_diag (HQ.out _ HB) _ _ _ _) Tryz.underlying70 rfl (by kernel_rfl)
 · exact ⟨by first | (rw [HR.out]; done) | (rw [HR.out]; rfl), put_below (below_step HW.out HB) (Nat.le_succ _) _ _ _ _⟩
theorem code_first {f : Nat → Option DiagD} {n : Nat} (h : ∀ k d, k < n → f k = some d → d.code ≠ 0) : ∀ d, firstE n f = some d → d.code ≠ 0 := by
 intro d he
 obtain ⟨i, hi, h1, _⟩ := firstE_ex he
 exact h i d hi h1
theorem code_lim {p : ProgD} : ∀ d, limM p = some d → d.code ≠ 0 := by
 intro d h
 unfold limM at h
 split at h
 · cases h; first | decide | (show (6 : Int) ≠ 0; decide) | (show (7 : Int) ≠ 0; decide) | (show (5 : Int) ≠ 0; decide)
 split at h
 · cases h; first | decide | (show (6 : Int) ≠ 0; decide) | (show (7 : Int) ≠ 0; decide) | (show (5 : Int) ≠ 0; decide)
 split at h
 · cases h; first | decide | (show (6 : Int) ≠ 0; decide) | (show (7 : Int) ≠ 0; decide) | (show (5 : Int) ≠ 0; decide)
 split at h
 · cases h; first | decide | (show (6 : Int) ≠ 0; decide) | (show (7 : Int) ≠ 0; decide) | (show (5 : Int) ≠ 0; decide)
 split at h
 · cases h; first | decide | (show (6 : Int) ≠ 0; decide) | (show (7 : Int) ≠ 0; decide) | (show (5 : Int) ≠ 0; decide)
 cases h
theorem code_hdrs {p : ProgD} : ∀ d, hdrsM p = some d → d.code ≠ 0 := code_first fun k d hk h => by
 rw [hdrAtM_at _ k hk] at h
 split at h
 · cases h; assumption
 split at h
 · cases h; first | decide | (show (6 : Int) ≠ 0; decide) | (show (7 : Int) ≠ 0; decide) | (show (5 : Int) ≠ 0; decide)
 split at h
 · cases h; first | decide | (show (6 : Int) ≠ 0; decide) | (show (7 : Int) ≠ 0; decide) | (show (5 : Int) ≠ 0; decide)
 cases h
theorem code_meta {p : ProgD} : ∀ d, metaM p = some d → d.code ≠ 0 := by
 intro d h
 rw [metaM_eq] at h
 split at h
 · cases h; first | decide | (show (6 : Int) ≠ 0; decide) | (show (7 : Int) ≠ 0; decide) | (show (5 : Int) ≠ 0; decide)
 rcases hf : firstE p.metadata.l.length (mAt p.metadata.l) with _ | x
 ·
  rw [hf] at h
  simp only at h
  refine code_first (f := wAt p.metadata.l) (n := 3) (fun k d hk h => ?_) d h
  unfold wAt at h
  split at h
  · cases h; first | decide | (show (6 : Int) ≠ 0; decide) | (show (7 : Int) ≠ 0; decide) | (show (5 : Int) ≠ 0; decide)
  · cases h
 ·
  rw [hf] at h
  simp only [Option.some.injEq] at h
  subst h
  refine code_first (f := mAt p.metadata.l) (fun k d hk h => ?_) x hf
  rw [fldE_mAt _ k hk] at h
  split at h
  · cases h; assumption
  · cases h
theorem code_regs {p : ProgD} : ∀ d, regsM p = some d → d.code ≠ 0 := code_first fun k d hk h => by
 rw [regAtM_at _ k hk] at h
 split at h
 · cases h; assumption
 split at h
 · cases h; first | decide | (show (6 : Int) ≠ 0; decide) | (show (7 : Int) ≠ 0; decide) | (show (5 : Int) ≠ 0; decide)
 cases h
theorem code_acts {p : ProgD} : ∀ d, actsM p = some d → d.code ≠ 0 := code_first fun k d hk h => by
 rw [actAtM_at _ k hk] at h
 split at h
 · cases h; assumption
 split at h
 · cases h; first | decide | (show (6 : Int) ≠ 0; decide) | (show (7 : Int) ≠ 0; decide) | (show (5 : Int) ≠ 0; decide)
 cases h
theorem code_tabs {p : ProgD} : ∀ d, tabsM p = some d → d.code ≠ 0 := code_first fun k d hk h => by
 rw [tabAtM_at _ k hk] at h
 split at h
 · cases h; assumption
 split at h
 · cases h; first | decide | (show (6 : Int) ≠ 0; decide) | (show (7 : Int) ≠ 0; decide) | (show (5 : Int) ≠ 0; decide)
 cases h
theorem code_flow {p : ProgD} : ∀ d, flowM p = some d → d.code ≠ 0 := by
 intro d h
 rw [flowM_eq] at h
 split at h
 · cases h; assumption
 split at h
 · cases h; assumption
 split at h
 · cases h; assumption
 cases h
theorem stage {d : Option DiagD} (hc : ∀ x, d = some x → x.code ≠ 0) : ((d.getD noDiag).code = 0 → d = none) ∧ ((d.getD noDiag).code ≠ 0 → d = some (d.getD noDiag)) := by
 rcases d with _ | x
 · exact ⟨fun _ => rfl, fun h => absurd rfl h⟩
 · exact ⟨fun h => absurd h (hc x rfl), fun _ => rfl⟩
theorem blk_facts {w : World} {k : Nat} {t : TypeId} {a b c d : Value} (h : Blk w k t #[a, b, c, d]) :
  w.cell? ⟨k, 0, none⟩ = some a ∧ w.cell? ⟨k, 1, none⟩ = some b ∧ w.cell? ⟨k, 2, none⟩ = some c ∧ w.cell? ⟨k, 3, none⟩ = some d ∧ ∀ i, w.frozen? ⟨k, i, none⟩ = false :=
 ⟨h.cell 0, h.cell 1, h.cell 2, h.cell 3, h.frozen⟩
theorem rcheck_any (p : ProgD) (w : World) (o : ProgOk w p) (hcp : ProgCap p) (hN : (presM p.control.l).length ≤ 90000) :
  Calls Tryz.prog 23 #[.agg (progCells p)] w fun e w' => e = .returned (dgV (checkM p)) ∧ Below w.heap.size w w' := by
 have HO := hi_ o
 have HCp := hi_ hcp
 have HN := hi_ hN
 have HC := hi_ (show checkM p = orE (limM p) (orE (hdrsM p) (orE (metaM p) (orE (regsM p) (orE (actsM p) (orE (tabsM p) (flowM p)))))) from rfl)
 obtain ⟨W, hW, hw, HB, hp, hQ⟩ := boxD w p
 have HW := hi_ hw
 have HQ := hi_ hQ
 have HS1 := hi_ (stage (code_lim (p := p)))
 have HS2 := hi_ (stage (code_hdrs (p := p)))
 have HS3 := hi_ (stage (code_meta (p := p)))
 have HS4 := hi_ (stage (code_regs (p := p)))
 have HS5 := hi_ (stage (code_acts (p := p)))
 have HS6 := hi_ (stage (code_tabs (p := p)))
 have HS7 := hi_ (stage (code_flow (p := p)))
 have HE1 := hi_ (fun u (hb : Below W.heap.size W u) => rwhole_any p u (HO.out.below (below_step HW.out hb)))
 have HE2 := hi_ (fun u (hb : Below W.heap.size W u) => rheaders_any p u (HO.out.below (below_step HW.out hb)))
 have HE3 := hi_ (fun u (hb : Below W.heap.size W u) => rmetadata_any p u (HO.out.below (below_step HW.out hb)))
 have HE4 := hi_ (fun u (hb : Below W.heap.size W u) => rregisters_any p u (HO.out.below (below_step HW.out hb)))
 have HE5 := hi_ (fun u (hb : Below W.heap.size W u) => ractions_any p u (HO.out.below (below_step HW.out hb)))
 have HE6 := hi_ (fun u (hb : Below W.heap.size W u) => rtables_any p u (HO.out.below (below_step HW.out hb)) HCp.out.args)
 have HE7 := hi_ (fun u (hb : Below W.heap.size W u) => rcode_any p u (HO.out.below (below_step HW.out hb)) HCp.out.cases HN.out)
 clear hQ o hw hcp hN
 generalize checkM p = cm at *
 generalize limM p = d1 at *
 generalize hdrsM p = d2 at *
 generalize metaM p = d3 at *
 generalize regsM p = d4 at *
 generalize actsM p = d5 at *
 generalize tabsM p = d6 at *
 generalize flowM p = d7 at *
 have HD7 := hi_ (show dgV d7 = (d7.getD noDiag).val from rfl)
 unfold dgV at HE1 HE2 HE3 HE4 HE5 HE6 HE7
 generalize d1.getD noDiag = x1 at *
 obtain ⟨c1, q1, i1, s1⟩ := x1
 generalize d2.getD noDiag = x2 at *
 obtain ⟨c2, q2, i2, s2⟩ := x2
 generalize d3.getD noDiag = x3 at *
 obtain ⟨c3, q3, i3, s3⟩ := x3
 generalize d4.getD noDiag = x4 at *
 obtain ⟨c4, q4, i4, s4⟩ := x4
 generalize d5.getD noDiag = x5 at *
 obtain ⟨c5, q5, i5, s5⟩ := x5
 generalize d6.getD noDiag = x6 at *
 obtain ⟨c6, q6, i6, s6⟩ := x6
 generalize d7.getD noDiag = x7 at *
 obtain ⟨c7, q7, i7, s7⟩ := x7
 simp only [DiagD.val] at HS1 HS2 HS3 HS4 HS5 HS6 HS7 HE1 HE2 HE3 HE4 HE5 HE6 HE7 HD7
 go_enter Tryz.func23, Tryz.ntmps23
 go_upto_region 1 with fail
 rw [← hW]
 clear hW
 have hp3 := hp W HB
 go_wp2_with fail
 refine (HE1.out _ (by first | exact HB | exact ba1 HB | exact ba2 HB | exact ba3 HB)).mono ?_
 rintro e w1 ⟨rfl, hbN⟩
 replace HB := below_step (by first | exact HB | exact ba1 HB | exact ba2 HB | exact ba3 HB) hbN
 clear hbN
 clear hp3
 obtain ⟨V, hV, hVb, hVV, hVc⟩ := box1 w1 #[.int .i64 c1, .int .i64 q1, .int .i64 i1, .int .i64 s1] 70
 have hKb : Blk V w1.heap.size 70 #[.int .i64 c1, .int .i64 q1, .int .i64 i1, .int .i64 s1] := by rw [hV]; exact Blk.new _ _ _
 have HKW := hi_ HB.size
 go_upto_region 2 with fail
 rw [← hV]
 replace HB := below_step HB hVb
 clear hV hVb hVV hVc
 generalize w1.heap.size = k at *
 have HK := hi_ hKb
 clear hKb
 have hk := blk_facts HK.out
 have hp3 := hp _ HB
 by_cases k1 : c1 = 0
 case neg =>
  have kb : (c1 == 0) = false := bf_ k1
  have HR : Hid (dgV cm = .agg #[.int .i64 c1, .int .i64 q1, .int .i64 i1, .int .i64 s1]) := hi_ (by rw [HC.out, HS1.out.2 k1]; rfl)
  clear k1
  go_wp2
  refine bodyPost_ret (v := .agg #[.int .i64 (c1), .int .i64 (q1), .int .i64 (i1), .int .i64 (s1)]) ?_ rfl ?_
  · exact results_cell_row (fn := Tryz.f23) (p := 2) (ty := 70) rfl _ _ (w.heap.size + 1) 70 #[.int .i64 (c1), .int .i64 (q1), .int .i64 (i1), .int .i64 (s1)] (0, 0) _ rfl (put_diag (HQ.out _ HB) _ _ _ _) Tryz.underlying70 rfl (by kernel_rfl)
  · exact ⟨by first | (rw [HR.out]; done) | (rw [HR.out]; rfl), put_below (below_step HW.out HB) (Nat.le_succ _) _ _ _ _⟩
 have e1 := HS1.out.1 k1
 subst e1 k1
 replace HC := hi_ (show cm = _ from HC.out)
 go_wp2_with fail
 refine (HE2.out _ HB).mono ?_
 rintro e w2 ⟨rfl, hbN⟩
 have HK2 := HK.out.below hbN HK.out.lt
 replace HB := below_step HB hbN
 clear hbN hk hp3 HK
 have hk := blk_facts HK2
 obtain ⟨V2, hV⟩ : ∃ V, V = ((((w2.setCell ⟨k, 0, none⟩ (.int .i64 c2)).setCell ⟨k, 1, none⟩ (.int .i64 q2)).setCell ⟨k, 2, none⟩ (.int .i64 i2)).setCell ⟨k, 3, none⟩ (.int .i64 s2)) := ⟨_, rfl⟩
 go_upto_region 4 with fail
 rw [← hV]
 have HK : Hid (Blk V2 k 70 #[.int .i64 c2, .int .i64 q2, .int .i64 i2, .int .i64 s2]) := hi_ (by rw [hV]; exact put_diag HK2 _ _ _ _)
 replace HB : Below W.heap.size W V2 := by rw [hV]; exact put_below HB HKW.out _ _ _ _
 clear hV hk HK2
 have hk := blk_facts HK.out
 have hp3 := hp _ HB
 by_cases k2 : c2 = 0
 case neg =>
  have kb : (c2 == 0) = false := bf_ k2
  have HR : Hid (dgV cm = .agg #[.int .i64 c2, .int .i64 q2, .int .i64 i2, .int .i64 s2]) := hi_ (by rw [HC.out, HS2.out.2 k2]; rfl)
  clear k2
  go_wp2
  refine bodyPost_ret (v := .agg #[.int .i64 (c2), .int .i64 (q2), .int .i64 (i2), .int .i64 (s2)]) ?_ rfl ?_
  · exact results_cell_row (fn := Tryz.f23) (p := 2) (ty := 70) rfl _ _ (w.heap.size + 1) 70 #[.int .i64 (c2), .int .i64 (q2), .int .i64 (i2), .int .i64 (s2)] (0, 0) _ rfl (put_diag (HQ.out _ HB) _ _ _ _) Tryz.underlying70 rfl (by kernel_rfl)
  · exact ⟨by first | (rw [HR.out]; done) | (rw [HR.out]; rfl), put_below (below_step HW.out HB) (Nat.le_succ _) _ _ _ _⟩
 have e2 := HS2.out.1 k2
 subst e2 k2
 replace HC := hi_ (show cm = _ from HC.out)
 go_wp2_with fail
 refine (HE3.out _ HB).mono ?_
 rintro e w2 ⟨rfl, hbN⟩
 have HK2 := HK.out.below hbN HK.out.lt
 replace HB := below_step HB hbN
 clear hbN hk hp3 HK
 have hk := blk_facts HK2
 obtain ⟨V3, hV⟩ : ∃ V, V = ((((w2.setCell ⟨k, 0, none⟩ (.int .i64 c3)).setCell ⟨k, 1, none⟩ (.int .i64 q3)).setCell ⟨k, 2, none⟩ (.int .i64 i3)).setCell ⟨k, 3, none⟩ (.int .i64 s3)) := ⟨_, rfl⟩
 go_upto_region 6 with fail
 rw [← hV]
 have HK : Hid (Blk V3 k 70 #[.int .i64 c3, .int .i64 q3, .int .i64 i3, .int .i64 s3]) := hi_ (by rw [hV]; exact put_diag HK2 _ _ _ _)
 replace HB : Below W.heap.size W V3 := by rw [hV]; exact put_below HB HKW.out _ _ _ _
 clear hV hk HK2
 have hk := blk_facts HK.out
 have hp3 := hp _ HB
 by_cases k3 : c3 = 0
 case neg =>
  have kb : (c3 == 0) = false := bf_ k3
  have HR : Hid (dgV cm = .agg #[.int .i64 c3, .int .i64 q3, .int .i64 i3, .int .i64 s3]) := hi_ (by rw [HC.out, HS3.out.2 k3]; rfl)
  clear k3
  go_wp2
  refine bodyPost_ret (v := .agg #[.int .i64 (c3), .int .i64 (q3), .int .i64 (i3), .int .i64 (s3)]) ?_ rfl ?_
  · exact results_cell_row (fn := Tryz.f23) (p := 2) (ty := 70) rfl _ _ (w.heap.size + 1) 70 #[.int .i64 (c3), .int .i64 (q3), .int .i64 (i3), .int .i64 (s3)] (0, 0) _ rfl (put_diag (HQ.out _ HB) _ _ _ _) Tryz.underlying70 rfl (by kernel_rfl)
  · exact ⟨by first | (rw [HR.out]; done) | (rw [HR.out]; rfl), put_below (below_step HW.out HB) (Nat.le_succ _) _ _ _ _⟩
 have e3 := HS3.out.1 k3
 subst e3 k3
 replace HC := hi_ (show cm = _ from HC.out)
 go_wp2_with fail
 refine (HE4.out _ HB).mono ?_
 rintro e w2 ⟨rfl, hbN⟩
 have HK2 := HK.out.below hbN HK.out.lt
 replace HB := below_step HB hbN
 clear hbN hk hp3 HK
 have hk := blk_facts HK2
 obtain ⟨V4, hV⟩ : ∃ V, V = ((((w2.setCell ⟨k, 0, none⟩ (.int .i64 c4)).setCell ⟨k, 1, none⟩ (.int .i64 q4)).setCell ⟨k, 2, none⟩ (.int .i64 i4)).setCell ⟨k, 3, none⟩ (.int .i64 s4)) := ⟨_, rfl⟩
 go_upto_region 8 with fail
 rw [← hV]
 have HK : Hid (Blk V4 k 70 #[.int .i64 c4, .int .i64 q4, .int .i64 i4, .int .i64 s4]) := hi_ (by rw [hV]; exact put_diag HK2 _ _ _ _)
 replace HB : Below W.heap.size W V4 := by rw [hV]; exact put_below HB HKW.out _ _ _ _
 clear hV hk HK2
 have hk := blk_facts HK.out
 have hp3 := hp _ HB
 by_cases k4 : c4 = 0
 case neg =>
  have kb : (c4 == 0) = false := bf_ k4
  have HR : Hid (dgV cm = .agg #[.int .i64 c4, .int .i64 q4, .int .i64 i4, .int .i64 s4]) := hi_ (by rw [HC.out, HS4.out.2 k4]; rfl)
  clear k4
  go_wp2
  refine bodyPost_ret (v := .agg #[.int .i64 (c4), .int .i64 (q4), .int .i64 (i4), .int .i64 (s4)]) ?_ rfl ?_
  · exact results_cell_row (fn := Tryz.f23) (p := 2) (ty := 70) rfl _ _ (w.heap.size + 1) 70 #[.int .i64 (c4), .int .i64 (q4), .int .i64 (i4), .int .i64 (s4)] (0, 0) _ rfl (put_diag (HQ.out _ HB) _ _ _ _) Tryz.underlying70 rfl (by kernel_rfl)
  · exact ⟨by first | (rw [HR.out]; done) | (rw [HR.out]; rfl), put_below (below_step HW.out HB) (Nat.le_succ _) _ _ _ _⟩
 have e4 := HS4.out.1 k4
 subst e4 k4
 replace HC := hi_ (show cm = _ from HC.out)
 go_wp2_with fail
 refine (HE5.out _ HB).mono ?_
 rintro e w2 ⟨rfl, hbN⟩
 have HK2 := HK.out.below hbN HK.out.lt
 replace HB := below_step HB hbN
 clear hbN hk hp3 HK
 have hk := blk_facts HK2
 obtain ⟨V5, hV⟩ : ∃ V, V = ((((w2.setCell ⟨k, 0, none⟩ (.int .i64 c5)).setCell ⟨k, 1, none⟩ (.int .i64 q5)).setCell ⟨k, 2, none⟩ (.int .i64 i5)).setCell ⟨k, 3, none⟩ (.int .i64 s5)) := ⟨_, rfl⟩
 go_upto_region 10 with fail
 rw [← hV]
 have HK : Hid (Blk V5 k 70 #[.int .i64 c5, .int .i64 q5, .int .i64 i5, .int .i64 s5]) := hi_ (by rw [hV]; exact put_diag HK2 _ _ _ _)
 replace HB : Below W.heap.size W V5 := by rw [hV]; exact put_below HB HKW.out _ _ _ _
 clear hV hk HK2
 have hk := blk_facts HK.out
 have hp3 := hp _ HB
 by_cases k5 : c5 = 0
 case neg =>
  have kb : (c5 == 0) = false := bf_ k5
  have HR : Hid (dgV cm = .agg #[.int .i64 c5, .int .i64 q5, .int .i64 i5, .int .i64 s5]) := hi_ (by rw [HC.out, HS5.out.2 k5]; rfl)
  clear k5
  go_wp2
  refine bodyPost_ret (v := .agg #[.int .i64 (c5), .int .i64 (q5), .int .i64 (i5), .int .i64 (s5)]) ?_ rfl ?_
  · exact results_cell_row (fn := Tryz.f23) (p := 2) (ty := 70) rfl _ _ (w.heap.size + 1) 70 #[.int .i64 (c5), .int .i64 (q5), .int .i64 (i5), .int .i64 (s5)] (0, 0) _ rfl (put_diag (HQ.out _ HB) _ _ _ _) Tryz.underlying70 rfl (by kernel_rfl)
  · exact ⟨by first | (rw [HR.out]; done) | (rw [HR.out]; rfl), put_below (below_step HW.out HB) (Nat.le_succ _) _ _ _ _⟩
 have e5 := HS5.out.1 k5
 subst e5 k5
 replace HC := hi_ (show cm = _ from HC.out)
 go_wp2_with fail
 refine (HE6.out _ HB).mono ?_
 rintro e w2 ⟨rfl, hbN⟩
 have HK2 := HK.out.below hbN HK.out.lt
 replace HB := below_step HB hbN
 clear hbN hk hp3 HK
 have hk := blk_facts HK2
 obtain ⟨V6, hV⟩ : ∃ V, V = ((((w2.setCell ⟨k, 0, none⟩ (.int .i64 c6)).setCell ⟨k, 1, none⟩ (.int .i64 q6)).setCell ⟨k, 2, none⟩ (.int .i64 i6)).setCell ⟨k, 3, none⟩ (.int .i64 s6)) := ⟨_, rfl⟩
 go_upto_region 12 with fail
 rw [← hV]
 have HK : Hid (Blk V6 k 70 #[.int .i64 c6, .int .i64 q6, .int .i64 i6, .int .i64 s6]) := hi_ (by rw [hV]; exact put_diag HK2 _ _ _ _)
 replace HB : Below W.heap.size W V6 := by rw [hV]; exact put_below HB HKW.out _ _ _ _
 clear hV hk HK2
 have hk := blk_facts HK.out
 have hp3 := hp _ HB
 by_cases k6 : c6 = 0
 case neg =>
  have kb : (c6 == 0) = false := bf_ k6
  have HR : Hid (dgV cm = .agg #[.int .i64 c6, .int .i64 q6, .int .i64 i6, .int .i64 s6]) := hi_ (by rw [HC.out, HS6.out.2 k6]; rfl)
  clear k6
  go_wp2
  refine bodyPost_ret (v := .agg #[.int .i64 (c6), .int .i64 (q6), .int .i64 (i6), .int .i64 (s6)]) ?_ rfl ?_
  · exact results_cell_row (fn := Tryz.f23) (p := 2) (ty := 70) rfl _ _ (w.heap.size + 1) 70 #[.int .i64 (c6), .int .i64 (q6), .int .i64 (i6), .int .i64 (s6)] (0, 0) _ rfl (put_diag (HQ.out _ HB) _ _ _ _) Tryz.underlying70 rfl (by kernel_rfl)
  · exact ⟨by first | (rw [HR.out]; done) | (rw [HR.out]; rfl), put_below (below_step HW.out HB) (Nat.le_succ _) _ _ _ _⟩
 have e6 := HS6.out.1 k6
 subst e6 k6
 replace HC := hi_ (show cm = _ from HC.out)
 go_wp2_with fail
 refine (HE7.out _ HB).mono ?_
 rintro e w2 ⟨rfl, hbN⟩
 have HK2 := HK.out.below hbN HK.out.lt
 replace HB := below_step HB hbN
 clear hbN hk hp3 HK
 have hk := blk_facts HK2
 obtain ⟨V7, hV⟩ : ∃ V, V = ((((w2.setCell ⟨k, 0, none⟩ (.int .i64 c7)).setCell ⟨k, 1, none⟩ (.int .i64 q7)).setCell ⟨k, 2, none⟩ (.int .i64 i7)).setCell ⟨k, 3, none⟩ (.int .i64 s7)) := ⟨_, rfl⟩
 go_upto_region 14 with fail
 rw [← hV]
 have HK : Hid (Blk V7 k 70 #[.int .i64 c7, .int .i64 q7, .int .i64 i7, .int .i64 s7]) := hi_ (by rw [hV]; exact put_diag HK2 _ _ _ _)
 replace HB : Below W.heap.size W V7 := by rw [hV]; exact put_below HB HKW.out _ _ _ _
 clear hV hk HK2
 have hk := blk_facts HK.out
 have hp3 := hp _ HB
 have HR : Hid (dgV cm = .agg #[.int .i64 c7, .int .i64 q7, .int .i64 i7, .int .i64 s7]) := hi_ (by rw [HC.out]; exact HD7.out)
 go_wp2
 refine bodyPost_ret (v := .agg #[.int .i64 (c7), .int .i64 (q7), .int .i64 (i7), .int .i64 (s7)]) ?_ rfl ?_
 · exact results_cell_row (fn := Tryz.f23) (p := 2) (ty := 70) rfl _ _ (w.heap.size + 1) 70 #[.int .i64 (c7), .int .i64 (q7), .int .i64 (i7), .int .i64 (s7)] (0, 0) _ rfl (put_diag (HQ.out _ HB) _ _ _ _) Tryz.underlying70 rfl (by kernel_rfl)
 · exact ⟨by first | (rw [HR.out]; done) | (rw [HR.out]; rfl), put_below (below_step HW.out HB) (Nat.le_succ _) _ _ _ _⟩
theorem rmod_s (p : ProgD) (o : OpP) (hk : o.kind = 2) (nm cs : ByteArray) (hn : nm.data.toList = nameT p o.table) (hc : cs.data.toList = callT p o.ca o.cargs) :
  ((⟨#[109, 111, 100, 105, 102, 121, 32]⟩ : ByteArray) ++ nm ++ (⟨#[32]⟩ : ByteArray) ++ idS o.id ++ (⟨#[32, 45, 62, 32]⟩ : ByteArray) ++ cs) = ⟨(opT p o).toArray⟩ := by
 refine bytes_of ?_
 simp [opT, hk, idS, wMod, wArrow, ← hn, ← hc]
theorem rdel_s (p : ProgD) (o : OpP) (hk : o.kind = 3) (nm : ByteArray) (hn : nm.data.toList = nameT p o.table) :
  ((⟨#[100, 101, 108, 101, 116, 101, 32]⟩ : ByteArray) ++ nm ++ (⟨#[32]⟩ : ByteArray) ++ idS o.id) = ⟨(opT p o).toArray⟩ := by
 refine bytes_of ?_
 simp [opT, hk, idS, wDel, ← hn]
theorem rdef_s (p : ProgD) (o : OpP) (hk : o.kind = 4) (nm cs : ByteArray) (hn : nm.data.toList = nameT p o.table) (hc : cs.data.toList = callT p o.ca o.cargs) :
  ((⟨#[100, 101, 102, 97, 117, 108, 116, 32]⟩ : ByteArray) ++ nm ++ (⟨#[32, 45, 62, 32]⟩ : ByteArray) ++ cs) = ⟨(opT p o).toArray⟩ := by
 refine bytes_of ?_
 simp [opT, hk, wDef, wArrow, ← hn, ← hc]
theorem rins_s (p : ProgD) (o : OpP) (hk : o.kind = 1) (c cs : ByteArray) (hn : c.data.toList = wIns ++ [32] ++ nameT p o.table ++ keysT o.keys) (hc : cs.data.toList = callT p o.ea o.eargs) :
  (c ++ (⟨#[32, 112, 114, 105, 111, 114, 105, 116, 121, 32]⟩ : ByteArray) ++ idS o.prio ++ (⟨#[32, 45, 62, 32]⟩ : ByteArray) ++ cs) = ⟨(opT p o).toArray⟩ := by
 refine bytes_of ?_
 simp [opT, hk, idS, wPrio, wArrow, hn, ← hc]
theorem diag_codeO (a b c d : Int) (w : World) : (Instr.field 70 (.agg #[.int .i64 a, .int .i64 b, .int .i64 c, .int .i64 d]) 0).run Tryz.prog w = .ok (.int .i64 a) w := by kernel_rfl
theorem keysT_snoc (l : List KmD) (k : KmD) : keysT (l ++ [k]) = keysT l ++ (32 :: keyT k) := by simp [keysT]
theorem ret_s2 {a : ByteArray} {F : List UInt8 × Int} {b : Int} {l : List UInt8} (hF : F = (l, b)) (h : a = ⟨l.toArray⟩) : Ending.returned (.tuple #[.string a, .int .i64 b]) = .returned (.tuple #[.string ⟨F.1.toArray⟩, .int .i64 F.2]) := by
 rw [hF, h]
theorem rFormat_any (p : ProgD) (x : OpD) (w : World) (G : ProgG w p) (hx : OpOk w x) (hf : OpFine x.bare) :
  Calls Tryz.prog 11 #[.agg (progCells p), .agg (opCells x)] w fun e w' => e = .returned (.tuple #[.string ⟨(formatM p x.bare).1.toArray⟩, .int .i64 (formatM p x.bare).2]) ∧ Below w.heap.size w w' := by
 obtain ⟨W, hW, hw, HB, hp⟩ := box2 w (progCells p) 31 (opCells x) 39
 have HW := hi_ hw
 have HCk := hi_ (fun u (hb : Below W.heap.size W u) => show Calls _ _ _ u (fun e w' => e = .returned (diagM p).val ∧ Below u.heap.size u w') from rcheck_any p u (G.ok.below (below_step hw hb)) G.cap G.nodes)
 have HFo := hi_ (formatM.eq_1 p x.bare)
 by_cases hz : (diagM p).code = 0
 case neg =>
  have HR := tr_ HFo (if_pos hz)
  have hz' : ((diagM p).code != 0) = true := bne_iff_ne.2 hz
  generalize formatM p x.bare = R at *
  simp only [diag_val] at HCk
  generalize diagM p = d at *
  obtain ⟨dc, dp, di, ds⟩ := d
  simp only at HCk HR hz'
  have hfd := diag_codeO dc dp di ds
  clear HFo hz G hx hf hw
  go_enter Tryz.func11, Tryz.ntmps11
  go_upto_region 1 with fail
  rw [← hW]
  clear hW
  have hp3 := (hp W HB).1
  have hp4 := (hp W HB).2
  go_wp2_with fail
  refine (HCk.out _ (by first | exact HB | exact ba1 HB | exact ba2 HB | exact ba3 HB)).mono ?_
  rintro e w1 ⟨rfl, hbN⟩
  replace HB := below_step (by first | exact HB | exact ba1 HB | exact ba2 HB | exact ba3 HB) hbN
  clear hbN
  go_wp2
  go_ret2
  exact ⟨ret_s2 HR.out rfl, below_step HW.out HB⟩
 have hck := diagM_ok hz
 have HRF : Hid (formatM p x.bare = fmtOp p x.bare) := tr_ HFo (if_neg (fun h => h hz))
 have HFm := hi_ (fmtOp.eq_1 p x.bare)
 simp only [diag_val, hz] at HCk
 generalize (diagM p).part = dp at *
 generalize (diagM p).item = di at *
 generalize (diagM p).sub = ds at *
 clear hz HFo
 have hfd := diag_codeO 0 dp di ds
 by_cases hkk : 1 ≤ x.kind ∧ x.kind ≤ 4
 case neg =>
  have HZ : Hid (opChk p x.bare = 11) := hi_ (by unfold opChk; rw [if_pos]; simp only [OpD.bare]; omega)
  have HR : Hid (formatM p x.bare = ([], 11)) := hi_ (by rw [HRF.out, HFm.out, HZ.out]; rfl)
  generalize formatM p x.bare = R at *
  clear hck HRF HFm HZ G hx hf hw
  obtain ⟨kd, tb, id, ks, pr, ea, eg, ca, cg⟩ := x
  simp only at hkk
  by_cases h1 : kd < 1
  ·
   have e1 : decide (kd < 1) = true := decide_eq_true h1
   clear hkk h1
   go_enter Tryz.func11, Tryz.ntmps11
   go_upto_region 1 with fail
   rw [← hW]
   clear hW
   have hp3 := (hp W HB).1
   have hp4 := (hp W HB).2
   go_wp2_with fail
   refine (HCk.out _ (by first | exact HB | exact ba1 HB | exact ba2 HB | exact ba3 HB)).mono ?_
   rintro e w1 ⟨rfl, hbN⟩
   replace HB := below_step (by first | exact HB | exact ba1 HB | exact ba2 HB | exact ba3 HB) hbN
   clear hbN
   clear hp3 hp4
   have hp3 := (hp _ HB).1
   have hp4 := (hp _ HB).2
   go_wp2
   go_ret2
   exact ⟨ret_s2 HR.out rfl, below_step HW.out HB⟩
  ·
   have e1 : decide (kd < 1) = false := decide_eq_false h1
   have e2 : decide (4 < kd) = true := decide_eq_true (by omega)
   clear hkk h1
   go_enter Tryz.func11, Tryz.ntmps11
   go_upto_region 1 with fail
   rw [← hW]
   clear hW
   have hp3 := (hp W HB).1
   have hp4 := (hp W HB).2
   go_wp2_with fail
   refine (HCk.out _ (by first | exact HB | exact ba1 HB | exact ba2 HB | exact ba3 HB)).mono ?_
   rintro e w1 ⟨rfl, hbN⟩
   replace HB := below_step (by first | exact HB | exact ba1 HB | exact ba2 HB | exact ba3 HB) hbN
   clear hbN
   clear hp3 hp4
   have hp3 := (hp _ HB).1
   have hp4 := (hp _ HB).2
   go_wp2
   go_ret2
   exact ⟨ret_s2 HR.out rfl, below_step HW.out HB⟩
 have e1 : decide (x.kind < 1) = false := decide_eq_false (by omega)
 have e2 : decide (4 < x.kind) = false := decide_eq_false (by omega)
 have hmt := G.ok.tables.1
 unfold maxLen at hmt
 by_cases htb : 0 ≤ x.table ∧ x.table.toNat < p.tables.l.length
 case neg =>
  have HZ : Hid (opChk p x.bare = 8) := hi_ (by
   unfold opChk
   rw [if_neg (by simp only [OpD.bare]; omega)]
   by_cases h : x.table < 0
   · rw [if_pos (by simpa only [OpD.bare] using h)]
   · rw [if_neg (by simpa only [OpD.bare] using h), List.getElem?_eq_none (by simp only [OpD.bare]; omega)])
  have HR : Hid (formatM p x.bare = ([], 8)) := hi_ (by rw [HRF.out, HFm.out, HZ.out]; rfl)
  generalize formatM p x.bare = R at *
  clear hck HRF HFm HZ G hx hf hw hkk
  obtain ⟨kd, tb, id, ks, pr, ea, eg, ca, cg⟩ := x
  simp only at htb e1 e2
  by_cases h1 : tb < 0
  ·
   have e3 : decide (tb < 0) = true := decide_eq_true h1
   clear htb h1
   go_enter Tryz.func11, Tryz.ntmps11
   go_upto_region 1 with fail
   rw [← hW]
   clear hW
   have hp3 := (hp W HB).1
   have hp4 := (hp W HB).2
   go_wp2_with fail
   refine (HCk.out _ (by first | exact HB | exact ba1 HB | exact ba2 HB | exact ba3 HB)).mono ?_
   rintro e w1 ⟨rfl, hbN⟩
   replace HB := below_step (by first | exact HB | exact ba1 HB | exact ba2 HB | exact ba3 HB) hbN
   clear hbN
   clear hp3 hp4
   have hp3 := (hp _ HB).1
   have hp4 := (hp _ HB).2
   go_wp2
   go_ret2
   exact ⟨ret_s2 HR.out rfl, below_step HW.out HB⟩
  ·
   have e3 : decide (tb < 0) = false := decide_eq_false h1
   have e4 : decide ((p.tables.l.length : Int) ≤ tb) = true := decide_eq_true (by omega)
   clear htb h1
   go_enter Tryz.func11, Tryz.ntmps11
   go_upto_region 1 with fail
   rw [← hW]
   clear hW
   have hp3 := (hp W HB).1
   have hp4 := (hp W HB).2
   go_wp2_with fail
   refine (HCk.out _ (by first | exact HB | exact ba1 HB | exact ba2 HB | exact ba3 HB)).mono ?_
   rintro e w1 ⟨rfl, hbN⟩
   replace HB := below_step (by first | exact HB | exact ba1 HB | exact ba2 HB | exact ba3 HB) hbN
   clear hbN
   clear hp3 hp4
   have hp3 := (hp _ HB).1
   have hp4 := (hp _ HB).2
   go_wp2
   go_ret2
   exact ⟨ret_s2 HR.out rfl, below_step HW.out HB⟩
 have HCh := hi_ (fun u (hb : Below W.heap.size W u) => rocheck_any p x u (G.ok.below (below_step hw hb)) hck G.cap.args (hx.below (below_step hw hb)) hf hkk htb.1 htb.2)
 have e3 : decide (x.table < 0) = false := decide_eq_false (by omega)
 have e4 : decide ((p.tables.l.length : Int) ≤ x.table) = false := decide_eq_false (by omega)
 by_cases hz : opChk p x.bare = 0
 case neg =>
  have HR : Hid (formatM p x.bare = ([], opChk p x.bare)) := hi_ (by rw [HRF.out, HFm.out, if_pos hz])
  have hz' : (opChk p x.bare != 0) = true := bne_iff_ne.2 hz
  generalize formatM p x.bare = R at *
  generalize opChk p x.bare = z at *
  clear hck HRF HFm G hx hf hw hkk hz htb
  obtain ⟨kd, tb, id, ks, pr, ea, eg, ca, cg⟩ := x
  simp only at e1 e2 e3 e4
  go_enter Tryz.func11, Tryz.ntmps11
  go_upto_region 1 with fail
  rw [← hW]
  clear hW
  have hp3 := (hp W HB).1
  have hp4 := (hp W HB).2
  go_wp2_with fail
  refine (HCk.out _ (by first | exact HB | exact ba1 HB | exact ba2 HB | exact ba3 HB)).mono ?_
  rintro e w1 ⟨rfl, hbN⟩
  replace HB := below_step (by first | exact HB | exact ba1 HB | exact ba2 HB | exact ba3 HB) hbN
  clear hbN
  clear hp3 hp4
  have hp3 := (hp _ HB).1
  have hp4 := (hp _ HB).2
  go_wp2_with fail
  refine (HCh.out _ (by first | exact HB | exact ba1 HB | exact ba2 HB | exact ba3 HB)).mono ?_
  rintro e w2 ⟨rfl, hbN⟩
  replace HB := below_step (by first | exact HB | exact ba1 HB | exact ba2 HB | exact ba3 HB) hbN
  clear hbN
  go_wp2
  go_ret2
  exact ⟨ret_s2 HR.out rfl, below_step HW.out HB⟩
 have HR : Hid (formatM p x.bare = (opT p x.bare, 0)) := hi_ (by rw [HRF.out, HFm.out, if_neg (fun h => h hz)])
 have HG := hi_ (good_op hck hz)
 rw [hz] at HCh
 clear HFm HRF hz
 obtain ⟨i, hti, hi, hns⟩ := HG.out.table
 have HFI := hi_ (fun u (_ : Below W.heap.size W u) => rfmtI_any x.id hf.id u)
 have HFP := hi_ (fun u => rfmtI_any x.prio hf.prio u)
 have HFK := hi_ (fun (k : KmD) (hk : k ∈ x.keys.l) (v : Int) (hv : v = k.v ∨ v = k.m) u => rfmtU_any v (by rcases hv with h | h; rw [h]; exact (hf.keys k hk).1; rw [h]; exact (hf.keys k hk).2) u)
 have HCE := hi_ (fun (h : GoodCall p x.ea x.eargs.l) u (hb : Below W.heap.size W u) => rcallT_any p x.ea x.eargs u (G.ok.below (below_step hw hb)) h (hx.eargs.below (below_step hw hb) (Nat.le_refl _)) hf.eargs)
 have HCC := hi_ (fun (h : GoodCall p x.ca x.cargs.l) u (hb : Below W.heap.size W u) => rcallT_any p x.ca x.cargs u (G.ok.below (below_step hw hb)) h (hx.cargs.below (below_step hw hb) (Nat.le_refl _)) hf.cargs)
 have HKX := hi_ (hx.keys.below hw (Nat.le_refl _))
 have hidz := itoa_len x.id (wf_i64 hf.id).1 (wf_i64 hf.id).2
 have hprz := itoa_len x.prio (wf_i64 hf.prio).1 (wf_i64 hf.prio).2
 obtain ⟨g, of, hA, hq⟩ := TabD.atA (G.ok.tables.below hw (Nat.le_refl _)) hi
 have hn1 : (i : Int) < (p.tables.l.length : Int) := by omega
 have HNT : Hid (p.tables.l[i].name.data.toList = nameT p x.bare.table) := hi_ (by
  have e : x.bare.table = (i : Int) := hti
  rw [e, nameT_at hi])
 have HMS := hi_ (rmod_s p x.bare)
 have HDS := hi_ (rdel_s p x.bare)
 have HFS := hi_ (rdef_s p x.bare)
 have HIS := hi_ (rins_s p x.bare)
 have HCz1 := hi_ (fun (h : GoodCall p x.ea x.eargs.l) => callT_size h)
 have HCz2 := hi_ (fun (h : GoodCall p x.ca x.cargs.l) => callT_size h)
 have HQ := hi_ (fun w' (h : Below W.heap.size W w') => (hq w' h).1)
 obtain ⟨nm, hnm⟩ : ∃ nm, nm = p.tables.l[i].name := ⟨_, rfl⟩
 rw [← hnm] at HNT HQ hns
 generalize formatM p x.bare = R at *
 generalize opT p x.bare = T at *
 obtain ⟨kd, tb, id, ⟨kl, kA, kc⟩, pr, ea, eg, ca, cg⟩ := x
 simp only [OpD.bare] at HNT HMS HDS HFS HIS HG HKX hti hidz hprz HFI HFP HFK HCE HCC HCz1 HCz2 e1 e2 e3 e4 hkk htb
 subst hti
 clear hq hck hx hf G hw hnm hkk htb
 simp only [progCells, opCells, L.v, hA] at hp hW HCk HCh HCE HCC ⊢
 clear hA
 go_enter Tryz.func11, Tryz.ntmps11
 go_upto_region 1 with fail
 rw [← hW]
 clear hW
 have hp3 := (hp W HB).1
 have hp4 := (hp W HB).2
 go_wp2_with fail
 refine (HCk.out _ (by first | exact HB | exact ba1 HB | exact ba2 HB | exact ba3 HB)).mono ?_
 rintro e w1 ⟨rfl, hbN⟩
 replace HB := below_step (by first | exact HB | exact ba1 HB | exact ba2 HB | exact ba3 HB) hbN
 clear hbN
 clear hp3 hp4
 have hp3 := (hp _ HB).1
 have hp4 := (hp _ HB).2
 go_wp2_with fail
 refine (HCh.out _ (by first | exact HB | exact ba1 HB | exact ba2 HB | exact ba3 HB)).mono ?_
 rintro e w2 ⟨rfl, hbN⟩
 replace HB := below_step (by first | exact HB | exact ba1 HB | exact ba2 HB | exact ba3 HB) hbN
 clear hbN
 clear hp3 hp4
 have hp3 := (hp _ HB).1
 have hp4 := (hp _ HB).2
 have hq3 := HQ.out _ HB
 go_wp2_with fail
 refine (HFI.out _ (by first | exact HB | exact ba1 HB | exact ba2 HB | exact ba3 HB)).mono ?_
 rintro e w3 ⟨rfl, hbN⟩
 replace HB := below_step (by first | exact HB | exact ba1 HB | exact ba2 HB | exact ba3 HB) hbN
 clear hbN
 clear hp3 hp4 hq3
 have hp3 := (hp _ HB).1
 have hp4 := (hp _ HB).2
 have hns2 := hns
 rcases HG.out.kind with hk | hk | hk | hk
 ·
  have HGI := hi_ (HG.out.ins hk)
  simp only at hk HGI
  subst hk
  have HIS2 := hi_ (HIS.out rfl)
  have HKl : Hid (kl.length ≤ 6) := hi_ HGI.out.1
  have hcz := HCz1.out HGI.out.2.2.2
  have HC9 := hi_ (fun u hb => HCE.out HGI.out.2.2.2 u hb)
  obtain ⟨CS, hCS⟩ : ∃ s : ByteArray, s = ⟨(callT p ea eg.l).toArray⟩ := ⟨_, rfl⟩
  have HCS : Hid (CS.data.toList = callT p ea eg.l) := hi_ (by rw [hCS])
  have hcs : CS.size ≤ 200 := by rw [hCS]; exact hcz
  rw [← hCS] at HC9
  clear hcz hCS HMS HDS HFS HIS HGI HCz1 HCz2 HCC HCE hidz
  have y0 : ¬ (7 + nm.size > 9223372036854775807) := by omega
  go_wp2
  have HB0 := hi_ HB
  clear hp3 hp4 HB
  go_loopw [9, 10] (fun sv iv wr => ∃ (k : Nat) (c : ByteArray), k ≤ kl.length ∧ iv = .int .i64 k ∧ sv = .string c ∧ Hid (c.data.toList = wIns ++ [32] ++ nameT p (i : Int) ++ keysT (kl.take k)) ∧ Hid (c.size ≤ 30 + 42 * k) ∧ Below W.heap.size W wr)
   (fun _ i _ => kl.length - (intOf i).toNat)
  case atStart => exact ⟨0, _, Nat.zero_le _, rfl, rfl, hi_ (by rw [app_data, HNT.out]; simp [wIns, keysT]), hi_ (by rw [ByteArray.size_append]; have : (⟨#[105, 110, 115, 101, 114, 116, 32]⟩ : ByteArray).size = 7 := rfl; omega), HB0.out⟩
  case round =>
   obtain ⟨k, c, hk, rfl, rfl, HC, HZ, HB⟩ := hrel
   by_cases hlt : k < kl.length
   ·
    obtain ⟨g2, of2, hA2, hd⟩ := KmD.atA HKX.out hlt
    have HF := hi_ (HFK.out _ (List.getElem_mem hlt))
    have HC2 : Hid (c.data.toList ++ (32 :: keyT kl[k]) = wIns ++ [32] ++ nameT p (i : Int) ++ keysT (kl.take (k + 1))) := hi_ (by rw [take_snoc kl k hlt, keysT_snoc, HC.out]; simp)
    have hcz := HZ.out
    have hk6 := HKl.out
    simp only at hA2 hd
    subst hA2
    generalize kl[k] = km0 at *
    obtain ⟨kv, km⟩ := km0
    simp only at hd HF
    have hsv := decS_size kv
    have hsm := decS_size km
    have y1 : ¬ (c.size + 1 > 9223372036854775807) := by omega
    have y2 : ¬ (c.size + 1 + (decS kv).size > 9223372036854775807) := by omega
    have y3 : ¬ (c.size + 1 + (decS kv).size + 1 > 9223372036854775807) := by omega
    have y4 : ¬ (c.size + 1 + (decS kv).size + 1 + (decS km).size > 9223372036854775807) := by omega
    have k1 := fun u (h : Below wr.heap.size wr u) => (hp u (below_step HB h)).2
    have k2 := fun u (h : Below wr.heap.size wr u) => hd u (below_step HB h)
    have hlt1 : (k : Int) < (kl.length : Int) := by omega
    have HBr := hi_ HB
    have H0 := hi_ (Below.refl wr.heap.size wr)
    have hp4 := (hp wr HB).2
    clear hd HC HB hp
    go_upto_region 24 with fail
    clear hp4
    go_region_held3 (fun w' => Below wr.heap.size wr w') (first | exact H0.out | exact below_drew H0.out | (exact below_step (by assumption) (by assumption)) | assumption)
     (first | (go_at_call 27; refine (HF.out _ (by first | exact .inl rfl | exact .inr rfl) _).mono ?_; rintro e w5 ⟨rfl, hb5⟩))
    have HB3 : Hid (Below wr.heap.size wr _) := hi_ (by assumption)
    go_wp2
    go_roundw
    case rel => exact ⟨k + 1, _, hlt, by go_num, rfl, hi_ (by rw [← HC2.out]; simp [keyT, decS]), hi_ (by simp only [ByteArray.size_append]; have : (⟨#[32]⟩ : ByteArray).size = 1 := rfl; have : (⟨#[47]⟩ : ByteArray).size = 1 := rfl; omega), below_step HBr.out HB3.out⟩
    case measure => simp [intOf]; omega
   ·
    have e : k = kl.length := by omega
    have HC2 : Hid (c.data.toList = wIns ++ [32] ++ nameT p (i : Int) ++ keysT kl) := hi_ (by have := HC.out; rw [e, List.take_length] at this; exact this)
    have hcz := HZ.out
    have hk6 := HKl.out
    have y1 : ¬ (c.size + 10 > 9223372036854775807) := by omega
    have y2 : ¬ (c.size + 10 + (idS pr).size > 9223372036854775807) := by omega
    have y3 : ¬ (c.size + 10 + (idS pr).size + 4 > 9223372036854775807) := by omega
    have y4 : ¬ (c.size + 10 + (idS pr).size + 4 + CS.size > 9223372036854775807) := by omega
    have hp4 := (hp wr HB).2
    have k1 := fun u (h : Below wr.heap.size wr u) => (hp u (below_step HB h)).2
    have k2 := fun u (h : Below wr.heap.size wr u) => (hp u (below_step HB h)).1
    have HBr := hi_ HB
    have H0 := hi_ (Below.refl wr.heap.size wr)
    clear HB hp HC e
    go_upto_region 25 with fail
    clear hp4
    go_region_held3 (fun w' => Below wr.heap.size wr w') (first | exact H0.out | exact below_drew H0.out | (exact below_step (by assumption) (by assumption)) | assumption)
     (first | (go_at_call 25; refine (HFP.out _).mono ?_; rintro e w5 ⟨rfl, hb5⟩) | (go_at_call 26; refine (HC9.out _ (below_step HBr.out (by assumption))).mono ?_; rintro e w6 ⟨rfl, hb6⟩))
    have HB3 : Hid (Below wr.heap.size wr _) := hi_ (by assumption)
    go_wp2
    go_ret2
    exact ⟨ret_s2 HR.out (HIS2.out _ _ HC2.out HCS.out), below_step HW.out (below_step HBr.out HB3.out)⟩
 ·
  have HGI := hi_ (HG.out.call (.inl hk))
  simp only at hk HGI
  subst hk
  have HIS2 := hi_ (HMS.out rfl)
  have hcz := HCz2.out HGI.out
  have HC9 := hi_ (fun u hb => HCC.out HGI.out u hb)
  obtain ⟨CS, hCS⟩ : ∃ s : ByteArray, s = ⟨(callT p ca cg.l).toArray⟩ := ⟨_, rfl⟩
  have HCS : Hid (CS.data.toList = callT p ca cg.l) := hi_ (by rw [hCS])
  have hcs : CS.size ≤ 200 := by rw [hCS]; exact hcz
  rw [← hCS] at HC9
  clear hcz hCS HMS HDS HFS HIS HGI HCz1 HCz2 HCC HCE hprz
  have y0 : ¬ (7 + nm.size > 9223372036854775807) := by omega
  have y1 : ¬ (7 + nm.size + 1 > 9223372036854775807) := by omega
  have y2 : ¬ (7 + nm.size + 1 + (idS id).size > 9223372036854775807) := by omega
  have y3 : ¬ (7 + nm.size + 1 + (idS id).size + 4 > 9223372036854775807) := by omega
  have y4 : ¬ (7 + nm.size + 1 + (idS id).size + 4 + CS.size > 9223372036854775807) := by omega
  go_wp2_with fail
  refine (HC9.out _ (by first | exact HB | exact ba1 HB | exact ba2 HB | exact ba3 HB)).mono ?_
  rintro e w4 ⟨rfl, hbN⟩
  replace HB := below_step (by first | exact HB | exact ba1 HB | exact ba2 HB | exact ba3 HB) hbN
  clear hbN
  go_wp2
  go_ret2
  exact ⟨ret_s2 HR.out (HIS2.out _ _ HNT.out HCS.out), below_step HW.out HB⟩
 ·
  simp only at hk
  subst hk
  have HIS2 := hi_ (HDS.out rfl)
  clear HMS HDS HFS HIS HCz1 HCz2 HCC HCE hprz
  have y0 : ¬ (7 + nm.size > 9223372036854775807) := by omega
  have y1 : ¬ (7 + nm.size + 1 > 9223372036854775807) := by omega
  have y2 : ¬ (7 + nm.size + 1 + (idS id).size > 9223372036854775807) := by omega
  go_wp2
  go_ret2
  exact ⟨ret_s2 HR.out (HIS2.out _ HNT.out), below_step HW.out HB⟩
 ·
  have HGI := hi_ (HG.out.call (.inr hk))
  simp only at hk HGI
  subst hk
  have HIS2 := hi_ (HFS.out rfl)
  have hcz := HCz2.out HGI.out
  have HC9 := hi_ (fun u hb => HCC.out HGI.out u hb)
  obtain ⟨CS, hCS⟩ : ∃ s : ByteArray, s = ⟨(callT p ca cg.l).toArray⟩ := ⟨_, rfl⟩
  have HCS : Hid (CS.data.toList = callT p ca cg.l) := hi_ (by rw [hCS])
  have hcs : CS.size ≤ 200 := by rw [hCS]; exact hcz
  rw [← hCS] at HC9
  clear hcz hCS HMS HDS HFS HIS HGI HCz1 HCz2 HCC HCE hprz hidz
  have y0 : ¬ (8 + nm.size > 9223372036854775807) := by omega
  have y1 : ¬ (8 + nm.size + 4 > 9223372036854775807) := by omega
  have y2 : ¬ (8 + nm.size + 4 + CS.size > 9223372036854775807) := by omega
  go_wp2_with fail
  refine (HC9.out _ (by first | exact HB | exact ba1 HB | exact ba2 HB | exact ba3 HB)).mono ?_
  rintro e w4 ⟨rfl, hbN⟩
  replace HB := below_step (by first | exact HB | exact ba1 HB | exact ba2 HB | exact ba3 HB) hbN
  clear hbN
  go_wp2
  go_ret2
  exact ⟨ret_s2 HR.out (HIS2.out _ _ HNT.out HCS.out), below_step HW.out HB⟩
theorem dec_neO (v : Nat) : dec v ≠ [] := by
 rw [dec, decD]; split <;> simp
theorem dec_headO (v : Nat) (h : v < 10 ^ 20) : ∃ c r, dec v = c :: r ∧ 48 ≤ c.toNat ∧ c.toNat ≤ 57 := by
 have hd : decF 0 (dec v) = some v := decF_dec 20 v (by omega) h
 match e : dec v with
 | [] => exact absurd e (dec_neO v)
 | c :: r =>
  rw [e, decF] at hd
  split at hd
  · rename_i hc; exact ⟨c, r, rfl, hc.1, hc.2⟩
  · cases hd
theorem pu32_decO (v : Nat) (h : v < 4294967296) : pu32 (dec v) = some v := by
 have hd : decF 0 (dec v) = some v := decF_dec 20 v (by omega) (by omega)
 rw [pu32, if_neg, if_pos, horner10 _ 0 (by omega), hd]
 · simp only; rw [if_pos (by omega)]
 · rw [dec]; exact canon_dec 20 v (by omega) (by omega)
 ·
  intro hp
  rw [prefix_iff] at hp
  match e : dec v with
  | [] => exact dec_neO v e
  | [_] => rw [e] at hp; simp at hp
  | a :: b :: r =>
   rw [e] at hp hd
   simp at hp
   obtain ⟨rfl, rfl⟩ := hp
   rw [decF, decF] at hd
   simp at hd
theorem ext_app (p : Int → Bool) : ∀ (s r : List UInt8), (∀ c ∈ s, p c.toNat = true) → (∀ c, r.head? = some c → p c.toNat = false) → ext p (s ++ r) = s.length
 | [], [], _, _ => rfl
 | [], c :: r, _, h => by
  rw [List.nil_append, ext, if_neg (by rw [h c rfl]; decide)]; rfl
 | c :: s, r, h, h2 => by
  rw [List.cons_append, ext, if_pos (h c (List.mem_cons_self ..)), ext_app p s r (fun x hx => h x (List.mem_cons_of_mem _ hx)) h2]; rfl
theorem ext_mem {p : Int → Bool} {s : List UInt8} (h : ext p s = s.length) : ∀ c ∈ s, p c.toNat = true := by
 intro c hc
 obtain ⟨i, hi, rfl⟩ := List.mem_iff_getElem.1 hc
 exact ext_all p s i (by omega)
def TokTo (l : List UInt8) (out r : List Tk) : Prop := ∀ n, l.length ≤ n → tokM n l 1 out = (r, 0, 0)
theorem tok_nil (out : List Tk) : TokTo [] out out := fun n _ => by
 cases n <;> rfl
theorem tok_space {l : List UInt8} {out r : List Tk} (h : TokTo l out r) : TokTo (32 :: l) out r := fun n hn => by
 match n, hn with
 | n + 1, hn =>
  rw [tokM, if_neg (by decide), if_pos (.inl rfl)]
  exact h n (by simp only [List.length_cons] at hn; omega)
theorem tok_one {s l : List UInt8} {out r : List Tk} {t : Tk} {c : UInt8} {q : List UInt8} (hs : s = c :: q) (hc : c ≠ 10 ∧ c ≠ 32 ∧ c ≠ 9 ∧ c ≠ 35) (ho : out.length < 4096)
  (hn : nextM (s ++ l) = (t, 0)) (ht : t.text = s) (h : TokTo l (out ++ [{ t with line := 1 }]) r) : TokTo (s ++ l) out r := fun n hlen => by
 subst hs
 match n, hlen with
 | 0, hlen => simp at hlen
 | n + 1, hlen =>
  rw [List.cons_append, tokM, if_neg hc.1, if_neg (by rintro (h | h); exact hc.2.1 h; exact hc.2.2.1 h), if_neg hc.2.2.2, if_neg (by omega)]
  rw [List.cons_append] at hn
  rw [hn, if_pos rfl]
  simp only [ht]
  have e : (c :: (q ++ l)).drop (c :: q).length = l := by
   rw [← List.cons_append]; exact List.drop_left
  rw [e]
  have h2 := h n (by simp only [List.length_append, List.length_cons] at hlen; omega)
  simp only [ht] at h2
  exact h2
def noWord (l : List UInt8) : Prop := ∀ c, l.head? = some c → isWord c.toNat = false
theorem nw_nil : noWord [] := fun c h => by cases h
theorem nw_cons {c : UInt8} {l : List UInt8} (h : isWord c.toNat = false) : noWord (c :: l) := fun d hd => by cases hd; exact h
theorem letter_not {c : UInt8} (h : isLet c.toNat = true) : c ≠ 10 ∧ c ≠ 32 ∧ c ≠ 9 ∧ c ≠ 35 := by
 refine ⟨?_, ?_, ?_, ?_⟩ <;> (rintro rfl; revert h; decide)
theorem tok_name {s l : List UInt8} {out r : List Tk} (hi : identM s = true) (hw : noWord l) (ho : out.length < 4096) (h : TokTo l (out ++ [⟨1, s, 0, 1⟩]) r) : TokTo (s ++ l) out r := by
 match s, hi with
 | c :: q, hi =>
  simp only [identM, Bool.and_eq_true, decide_eq_true_eq] at hi
  have e := ext_app isWord (c :: q) l (ext_mem hi.2) hw
  refine tok_one (t := ⟨1, c :: q, 0, 0⟩) rfl (letter_not hi.1.2) ho ?_ rfl h
  rw [List.cons_append] at e ⊢
  rw [nextM, if_pos hi.1.2, e, if_neg (by omega), ← List.cons_append, List.take_left]
theorem decF_digits : ∀ (l : List UInt8) (acc v : Nat), decF acc l = some v → ∀ c ∈ l, 48 ≤ c.toNat ∧ c.toNat ≤ 57
 | [], _, _, _, c, h => by cases h
 | d :: l, acc, v, h, c, hc => by
  rw [decF] at h
  split at h
  ·
   rename_i hd
   rcases List.mem_cons.1 hc with rfl | hc
   · exact hd
   · exact decF_digits l _ v h c hc
  · cases h
theorem dig_of {c : UInt8} (h : 48 ≤ c.toNat ∧ c.toNat ≤ 57) : isDig c.toNat = true := by
 rw [isDig, decide_eq_true (by omega), decide_eq_true (by omega)]; rfl
theorem let_not {c : UInt8} (h : 48 ≤ c.toNat ∧ c.toNat ≤ 57) : isLet c.toNat = false := by
 rw [isLet, decide_eq_false (by omega : ¬ ((97 : Int) ≤ (c.toNat : Nat))), decide_eq_false (by omega : ¬ ((65 : Int) ≤ (c.toNat : Nat)))]; rfl
theorem alnum_word {c : Int} (h : isWord c = false) : isAlnum c = false := by
 rw [isWord] at h
 rw [isAlnum]
 simp only [Bool.or_eq_false_iff] at h ⊢
 exact ⟨h.1.1, h.1.2⟩
theorem tok_num {v : Nat} {l : List UInt8} {out r : List Tk} (hv : v < 4294967296) (hw : noWord l) (ho : out.length < 4096) (h : TokTo l (out ++ [⟨2, dec v, v, 1⟩]) r) : TokTo (dec v ++ l) out r := by
 have hd : decF 0 (dec v) = some v := decF_dec 20 v (by omega) (by omega)
 have hall := decF_digits _ 0 v hd
 obtain ⟨c, q, hq, h1, h2⟩ := dec_headO v (by omega)
 have e := ext_app isAlnum (dec v) l (fun x hx => by rw [isAlnum, dig_of (hall x hx), Bool.or_true]) (fun x hx => alnum_word (hw x hx))
 have hp := pu32_decO v hv
 rw [hq] at e hp h ⊢
 refine tok_one (t := ⟨2, c :: q, v, 0⟩) rfl ?_ ho ?_ rfl h
 · refine ⟨?_, ?_, ?_, ?_⟩ <;> (rintro rfl; revert h1; decide)
 ·
  rw [List.cons_append] at e ⊢
  rw [nextM, if_neg (by rw [let_not ⟨h1, h2⟩]; decide), if_pos (dig_of ⟨h1, h2⟩), e, ← List.cons_append, List.take_left, hp]
theorem tok_two {l : List UInt8} {out r : List Tk} (ho : out.length < 4096) (h : TokTo l (out ++ [⟨3, wArrow, 0, 1⟩]) r) : TokTo (wArrow ++ l) out r := by
 refine tok_one (t := ⟨3, wArrow, 0, 0⟩) (c := 45) (q := [62]) rfl (by decide) ho ?_ rfl h
 show nextM (45 :: 62 :: l) = _
 rw [nextM, if_neg (by decide), if_neg (by decide)]
 have e : sym (45 :: 62 :: l) = 2 := by rw [sym, if_pos (by simp [twos])]
 rw [e]
 rfl
theorem tok_sym {c : UInt8} {l : List UInt8} {out r : List Tk} (hc : c = 40 ∨ c = 41 ∨ c = 44 ∨ c = 47) (ho : out.length < 4096) (h : TokTo l (out ++ [⟨3, [c], 0, 1⟩]) r) : TokTo (c :: l) out r := by
 have hx : isLet c.toNat = false ∧ isDig c.toNat = false ∧ c ∈ ones ∧ (c ≠ 10 ∧ c ≠ 32 ∧ c ≠ 9 ∧ c ≠ 35) := by
  rcases hc with rfl | rfl | rfl | rfl <;> decide
 refine tok_one (s := [c]) (t := ⟨3, [c], 0, 0⟩) (q := []) rfl hx.2.2.2 ho ?_ rfl h
 show nextM (c :: l) = _
 have e : sym (c :: l) = 1 := by
  rw [sym_cons, if_pos hx.2.2.1]
  cases l with
  | nil => rcases hc with rfl | rfl | rfl | rfl <;> decide
  | cons d l =>
   show [c, d] ∉ twos
   rcases hc with rfl | rfl | rfl | rfl <;> simp [twos]
 rw [nextM, if_neg (by rw [hx.1]; decide), if_neg (by rw [hx.2.1]; decide), e]
 rfl
def nTk (s : List UInt8) : Tk := ⟨1, s, 0, 1⟩
def vTk (v : Int) : Tk := ⟨2, decI v, v.toNat, 1⟩
def sTk (s : List UInt8) : Tk := ⟨3, s, 0, 1⟩
def argK : Bool → List Int → List Tk
 | _, [] => []
 | true, v :: l => vTk v :: argK false l
 | false, v :: l => sTk [44] :: vTk v :: argK false l
def keyK : List KmD → List Tk
 | [] => []
 | k :: l => vTk k.v :: sTk [47] :: vTk k.m :: keyK l
def callK (p : ProgD) (a : Int) (l : List Int) : List Tk := sTk wArrow :: nTk (nameA p a) :: sTk [40] :: (argK true l ++ [sTk [41]])
def opK (p : ProgD) (o : OpP) : List Tk :=
 if o.kind = 1 then nTk wIns :: nTk (nameT p o.table) :: (keyK o.keys ++ nTk wPrio :: vTk o.prio :: callK p o.ea o.eargs)
 else if o.kind = 2 then nTk wMod :: nTk (nameT p o.table) :: vTk o.id :: callK p o.ca o.cargs
 else if o.kind = 3 then [nTk wDel, nTk (nameT p o.table), vTk o.id]
 else nTk wDef :: nTk (nameT p o.table) :: callK p o.ca o.cargs
def U32 (v : Int) : Prop := 0 ≤ v ∧ v < 4294967296
theorem tok_v {v : Int} {l : List UInt8} {out r : List Tk} (hv : U32 v) (hw : noWord l) (ho : out.length < 4096) (h : TokTo l (out ++ [vTk v]) r) : TokTo (decI v ++ l) out r :=
 tok_num (by have := hv.2; have := hv.1; omega) hw ho h
theorem tok_tail : ∀ (l : List Int) {rest : List UInt8} {out r : List Tk}, (∀ v ∈ l, U32 v) → noWord rest → out.length + 2 * l.length < 4096 →
  TokTo rest (out ++ argK false l) r → TokTo (Lib.joinTail [44, 32] (l.map decI) ++ rest) out r
 | [], rest, out, r, _, _, _, h => by
  simpa [argK, Lib.joinTail] using h
 | v :: l, rest, out, r, hv, hw, ho, h => by
  have e : Lib.joinTail [44, 32] ((v :: l).map decI) ++ rest = 44 :: 32 :: (decI v ++ (Lib.joinTail [44, 32] (l.map decI) ++ rest)) := by
   simp [Lib.joinTail]
  rw [e]
  simp only [List.length_cons] at ho
  refine tok_sym (.inr (.inr (.inl rfl))) (by omega) (tok_space (tok_v (hv v (List.mem_cons_self ..)) ?_ (by simp; omega) (tok_tail l (fun x hx => hv x (List.mem_cons_of_mem _ hx)) hw (by simp; omega) ?_)))
  ·
   cases l with
   | nil => simpa [Lib.joinTail] using hw
   | cons x l =>
    simp only [List.map_cons, Lib.joinTail, List.flatten_cons, List.cons_append]
    exact nw_cons (by decide)
  · simpa [argK, sTk, List.append_assoc] using h
theorem tok_args {l : List Int} {rest : List UInt8} {out r : List Tk} (hv : ∀ v ∈ l, U32 v) (hw : noWord rest) (ho : out.length + 2 * l.length < 4096)
  (h : TokTo rest (out ++ argK true l) r) : TokTo (argsX l ++ rest) out r := by
 cases l with
 | nil => simpa [argK, argsX, Lib.join_nil] using h
 | cons v l =>
  rw [argsX, List.map_cons, Lib.join_cons, List.append_assoc]
  simp only [List.length_cons] at ho
  refine tok_v (hv v (List.mem_cons_self ..)) ?_ (by omega) (tok_tail l (fun x hx => hv x (List.mem_cons_of_mem _ hx)) hw (by simp; omega) ?_)
  ·
   cases l with
   | nil => simpa [Lib.joinTail] using hw
   | cons x l =>
    simp only [List.map_cons, Lib.joinTail, List.flatten_cons, List.cons_append]
    exact nw_cons (by decide)
  · simpa [argK, List.append_assoc] using h
theorem tok_call {p : ProgD} {a : Int} {l : List Int} {out : List Tk} (hn : identM (nameA p a) = true) (hv : ∀ v ∈ l, U32 v) (ho : out.length + 2 * l.length + 4 < 4096) :
  TokTo (wArrow ++ (32 :: callT p a l)) out (out ++ callK p a l) := by
 have e : callT p a l = nameA p a ++ (40 :: (argsX l ++ [41])) := by simp [callT]
 rw [e]
 refine tok_two (by omega) (tok_space (tok_name hn (nw_cons (by decide)) (by simp; omega) (tok_sym (.inl rfl) (by simp; omega) (tok_args hv (nw_cons (by decide)) (by simp; omega) (tok_sym (.inr (.inl rfl)) ?_ ?_)))))
 ·
  have : ∀ (b : Bool) (m : List Int), (argK b m).length ≤ 2 * m.length := by
   intro b m
   induction m generalizing b with
   | nil => cases b <;> simp [argK]
   | cons x m ih =>
    have := ih false
    cases b <;> simp [argK] <;> omega
  have := this true l
  simp
  omega
 ·
  have h := tok_nil (out ++ callK p a l)
  simpa [callK, sTk, nTk, List.append_assoc] using h
theorem keyK_len : ∀ (l : List KmD), (keyK l).length = 3 * l.length
 | [] => rfl
 | k :: l => by simp [keyK, keyK_len l]; omega
theorem tok_keys : ∀ (l : List KmD) {rest : List UInt8} {out r : List Tk}, (∀ k ∈ l, U32 k.v ∧ U32 k.m) → noWord rest → out.length + 3 * l.length < 4096 →
  TokTo rest (out ++ keyK l) r → TokTo (keysT l ++ rest) out r
 | [], rest, out, r, _, _, _, h => by simpa [keyK, keysT] using h
 | k :: l, rest, out, r, hk, hw, ho, h => by
  have e : keysT (k :: l) ++ rest = 32 :: (decI k.v ++ (47 :: (decI k.m ++ (keysT l ++ rest)))) := by simp [keysT, keyT]
  rw [e]
  simp only [List.length_cons] at ho
  have hk1 := hk k (List.mem_cons_self ..)
  refine tok_space (tok_v hk1.1 (nw_cons (by decide)) (by omega) (tok_sym (.inr (.inr (.inr rfl))) (by simp; omega) (tok_v hk1.2 ?_ (by simp; omega) (tok_keys l (fun x hx => hk x (List.mem_cons_of_mem _ hx)) hw (by simp; omega) ?_))))
  ·
   cases l with
   | nil => simpa [keysT] using hw
   | cons x l =>
    simp only [keysT, List.map_cons, List.flatten_cons, List.cons_append]
    exact nw_cons (by decide)
  · simpa [keyK, sTk, List.append_assoc] using h
theorem at_next {ts : List Tk} {i : Nat} {t : Tk} {r : List Tk} (h : ts.drop i = t :: r) : nxt ts i = t ∧ ts.drop (i + 1) = r ∧ i < ts.length := by
 have hi : i < ts.length := by
  rcases Nat.lt_or_ge i ts.length with h1 | h1
  · exact h1
  · rw [List.drop_eq_nil_of_le h1] at h; cases h
 rw [List.drop_eq_getElem_cons hi] at h
 cases h
 exact ⟨by simp [nxt, hi], rfl, hi⟩
theorem take_at {ts : List Tk} {i k : Nat} {txt : List UInt8} {t : Tk} {r : List Tk} (h : ts.drop i = t :: r) (hk : t.kind = k) (ht : txt = [] ∨ t.text = txt) : takeA ts k txt (.ok i) = (t, .ok (i + 1)) := by
 rw [takeA, (at_next h).1, if_neg]
 rintro (h1 | h1)
 · exact h1 hk
 ·
  rcases ht with ht | ht
  · exact h1.1 ht
  · exact h1.2 ht
theorem step_at {ts : List Tk} {i k : Nat} {txt : List UInt8} {t : Tk} {r : List Tk} (h : ts.drop i = t :: r) (hk : t.kind = k) (ht : txt = [] ∨ t.text = txt) : stepA ts k txt (.ok i) = .ok (i + 1) := by
 rw [stepA, take_at h hk ht]
theorem num_at {ts : List Tk} {i : Nat} {v : Int} {r : List Tk} (h : ts.drop i = vTk v :: r) : numA ts (.ok i) = (v.toNat, .ok (i + 1)) := by
 rw [numA, take_at (k := 2) (txt := []) h rfl (.inl rfl)]; rfl
theorem byte_eta (s : ByteArray) : (⟨s.data.toList.toArray⟩ : ByteArray) = s := by
 cases s; simp
theorem res_at {ts : List Tk} {i j : Nat} {names : List ByteArray} {s : ByteArray} {r : List Tk} (h : ts.drop i = nTk s.data.toList :: r) (hl : lookM names s = ((j : Int), true)) : resA ts names (.ok i) = ((j : Int), .ok (i + 1)) := by
 rw [resA, take_at (k := 1) (txt := []) h rfl (.inl rfl)]
 simp only [nTk, byte_eta, hl, if_true]
theorem dec_no41 (v : Int) (hv : U32 v) : decI v ≠ [41] := by
 intro e
 obtain ⟨c, q, hq, h1, h2⟩ := dec_headO v.toNat (by have := hv.2; have := hv.1; omega)
 rw [decI, hq] at e
 cases e
 revert h1; decide
theorem args_at {ts : List Tk} {post : List Tk} : ∀ (l : List Int) (n : Nat) (f : Bool) (acc : List Int) (i : Nat), (∀ v ∈ l, U32 v) → l.length < n → ts.drop i = argK f l ++ sTk [41] :: post →
  argsA ts n f acc (.ok i) = (acc ++ l, .ok (i + (argK f l).length)) ∧ ts.drop (i + (argK f l).length) = sTk [41] :: post
 | [], n + 1, f, acc, i, _, _, h => by
  have e : argK f [] = [] := by cases f <;> rfl
  rw [e, List.nil_append] at h
  rw [argsA, (at_next h).1, if_pos (show (sTk [41]).text = [41] from rfl), e]
  exact ⟨by simp, by simpa using h⟩
 | v :: l, n + 1, true, acc, i, hv, hn, h => by
  have hv1 := hv v (List.mem_cons_self ..)
  rw [argK, List.cons_append] at h
  rw [argsA, (at_next h).1, if_neg (show ¬ (vTk v).text = [41] from dec_no41 v hv1)]
  simp only [if_true, num_at h]
  obtain ⟨h1, h2⟩ := args_at l n false (acc ++ [((v.toNat : Nat) : Int)]) (i + 1) (fun x hx => hv x (List.mem_cons_of_mem _ hx)) (by simp only [List.length_cons] at hn; omega) (at_next h).2.1
  rw [h1, argK, List.length_cons]
  have e : ((v.toNat : Nat) : Int) = v := by have := hv1.1; omega
  have e2 : i + ((argK false l).length + 1) = i + 1 + (argK false l).length := by omega
  exact ⟨by rw [e, e2]; simp, by rw [e2]; exact h2⟩
 | v :: l, n + 1, false, acc, i, hv, hn, h => by
  have hv1 := hv v (List.mem_cons_self ..)
  rw [argK, List.cons_append] at h
  have h' := (at_next h).2.1
  rw [List.cons_append] at h'
  rw [argsA, (at_next h).1, if_neg (by simp [sTk])]
  simp only [Bool.false_eq_true, if_false, step_at (k := 3) (txt := [44]) h rfl (.inr rfl), num_at h']
  obtain ⟨h1, h2⟩ := args_at l n false (acc ++ [((v.toNat : Nat) : Int)]) (i + 1 + 1) (fun x hx => hv x (List.mem_cons_of_mem _ hx)) (by simp only [List.length_cons] at hn; omega) (at_next h').2.1
  rw [h1, argK, List.length_cons, List.length_cons]
  have e : ((v.toNat : Nat) : Int) = v := by have := hv1.1; omega
  have e2 : i + ((argK false l).length + 1 + 1) = i + 1 + 1 + (argK false l).length := by omega
  exact ⟨by rw [e, e2]; simp, by rw [e2]; exact h2⟩
theorem keys_at {ts : List Tk} {t : Tk} (ht : t.kind ≠ 2) {post : List Tk} : ∀ (l : List KmD) (n : Nat) (acc : List KmD) (i : Nat), (∀ k ∈ l, U32 k.v ∧ U32 k.m) → l.length < n → ts.drop i = keyK l ++ t :: post →
  keysA ts n acc (.ok i) = (acc ++ l, .ok (i + (keyK l).length)) ∧ ts.drop (i + (keyK l).length) = t :: post
 | [], n + 1, acc, i, _, _, h => by
  rw [keyK, List.nil_append] at h
  rw [keysA, (at_next h).1, if_neg ht, keyK]
  exact ⟨by simp, by simpa using h⟩
 | k :: l, n + 1, acc, i, hv, hn, h => by
  have hv1 := hv k (List.mem_cons_self ..)
  rw [keyK, List.cons_append, List.cons_append, List.cons_append] at h
  have h' := (at_next h).2.1
  have h'' := (at_next h').2.1
  rw [keysA, (at_next h).1, if_pos (show (vTk k.v).kind = 2 from rfl)]
  simp only [num_at h, step_at (k := 3) (txt := [47]) h' rfl (.inr rfl), num_at h'']
  obtain ⟨h1, h2⟩ := keys_at ht l n (acc ++ [⟨((k.v.toNat : Nat) : Int), ((k.m.toNat : Nat) : Int)⟩]) (i + 1 + 1 + 1) (fun x hx => hv x (List.mem_cons_of_mem _ hx)) (by simp only [List.length_cons] at hn; omega) (at_next h'').2.1
  rw [h1, keyK, List.length_cons, List.length_cons, List.length_cons]
  have e : (⟨((k.v.toNat : Nat) : Int), ((k.m.toNat : Nat) : Int)⟩ : KmD) = k := by
   have h3 : ((k.v.toNat : Nat) : Int) = k.v := by have := hv1.1.1; omega
   have h4 : ((k.m.toNat : Nat) : Int) = k.m := by have := hv1.2.1; omega
   rw [h3, h4]
  have e2 : i + ((keyK l).length + 1 + 1 + 1) = i + 1 + 1 + 1 + (keyK l).length := by omega
  exact ⟨by rw [e, e2]; simp, by rw [e2]; exact h2⟩
structure ActAt (p : ProgD) (a : Int) : Prop where
 ident : identM (nameA p a) = true
 first : ∃ j : Nat, ∃ s : ByteArray, a = (j : Int) ∧ nameA p a = s.data.toList ∧ lookM (p.actions.l.map ActD.name) s = ((j : Int), true)
theorem call_at {p : ProgD} {ts : List Tk} {i : Nat} {a : Int} {l : List Int} (ha : ActAt p a) (hv : ∀ v ∈ l, U32 v) (h : ts.drop i = callK p a l) :
  callA p ts (.ok i) = ((a, l), .ok (i + (callK p a l).length)) := by
 obtain ⟨j, s, ha1, ha2, ha3⟩ := ha.first
 rw [callK, ha2] at h
 have h1 := (at_next h).2.1
 have h2 := (at_next h1).2.1
 have h3 := (at_next h2).2.1
 have hlen : l.length < ts.length + 2 := by
  have e := congrArg List.length h3
  have : ∀ (b : Bool) (m : List Int), m.length ≤ (argK b m).length := by
   intro b m
   induction m generalizing b with
   | nil => simp
   | cons x m ih =>
    have := ih false
    cases b <;> simp [argK] <;> omega
  have := this true l
  simp only [List.length_drop, List.length_append] at e
  omega
 obtain ⟨h4, h5⟩ := args_at l (ts.length + 2) true [] (i + 1 + 1 + 1) hv hlen h3
 rw [callA]
 simp only [step_at (k := 3) (txt := wArrow) h rfl (.inr rfl), res_at h1 ha3, step_at (k := 3) (txt := [40]) h2 rfl (.inr rfl), h4, step_at (k := 3) (txt := [41]) h5 rfl (.inr rfl)]
 rw [← ha1, callK]
 simp only [List.length_cons, List.length_append, List.length_nil, List.nil_append]
 congr 2
 omega
structure OpWell (p : ProgD) (o : OpP) : Prop where
 kind : 1 ≤ o.kind ∧ o.kind ≤ 4
 tident : identM (nameT p o.table) = true
 tfirst : ∃ j : Nat, ∃ s : ByteArray, o.table = (j : Int) ∧ nameT p o.table = s.data.toList ∧ lookM (p.tables.l.map TabD.name) s = ((j : Int), true)
 ins : o.kind = 1 → ActAt p o.ea ∧ (∀ v ∈ o.eargs, U32 v) ∧ (∀ k ∈ o.keys, U32 k.v ∧ U32 k.m) ∧ U32 o.prio ∧ o.keys.length ≤ 100 ∧ o.eargs.length ≤ 100
 call : o.kind = 2 ∨ o.kind = 4 → ActAt p o.ca ∧ (∀ v ∈ o.cargs, U32 v) ∧ o.cargs.length ≤ 100
 id : o.kind = 2 ∨ o.kind = 3 → U32 o.id
def canO (o : OpP) : OpP :=
 if o.kind = 1 then ⟨1, o.table, 0, o.keys, o.prio, o.ea, o.eargs, 0, []⟩
 else if o.kind = 2 then ⟨2, o.table, o.id, [], 0, 0, [], o.ca, o.cargs⟩
 else if o.kind = 3 then ⟨3, o.table, o.id, [], 0, 0, [], 0, []⟩
 else ⟨4, o.table, 0, [], 0, 0, [], o.ca, o.cargs⟩
theorem opA_at {p : ProgD} {o : OpP} (h : OpWell p o) : opA p (opK p o) = (canO o, .ok (opK p o).length) := by
 obtain ⟨j, s, ht1, ht2, ht3⟩ := h.tfirst
 have hk := h.kind
 by_cases h1 : o.kind = 1
 ·
  obtain ⟨ha, hv, hks, hp, _⟩ := h.ins h1
  have e : (opK p o).drop 0 = nTk wIns :: nTk s.data.toList :: (keyK o.keys ++ nTk wPrio :: vTk o.prio :: callK p o.ea o.eargs) := by rw [List.drop_zero, opK, if_pos h1, ht2]
  generalize hts : opK p o = ts at *
  have e1 := (at_next e).2.1
  have e2 := (at_next e1).2.1
  have hlen : o.keys.length < ts.length + 2 := by
   have e' := congrArg List.length e2
   simp only [List.length_drop, List.length_append, keyK_len] at e'
   omega
  obtain ⟨h4, h5⟩ := keys_at (t := nTk wPrio) (by decide) o.keys (ts.length + 2) [] (0 + 1 + 1) hks hlen e2
  have h6 := (at_next h5).2.1
  have h7 := (at_next h6).2.1
  have hc := call_at ha hv h7
  have hl : ts.length = 0 + 1 + 1 + (keyK o.keys).length + 1 + 1 + (callK p o.ea o.eargs).length := by
   rw [← hts, opK, if_pos h1]
   simp only [List.length_cons, List.length_append]
   omega
  unfold opA
  rw [(at_next e).1]
  have hw : kindW (nTk wIns).text = 1 := by decide
  simp only [hw]
  rw [if_neg (by decide), if_pos trivial]
  simp only [show (PS.ok 1) = PS.ok (0 + 1) from rfl, res_at e1 ht3, h4, step_at (k := 1) (txt := wPrio) h5 rfl (.inr rfl), num_at h6, hc, List.nil_append]
  rw [canO, if_pos h1, hl]
  have e3 : ((o.prio.toNat : Nat) : Int) = o.prio := by have := hp.1; omega
  rw [e3, ht1]
 ·
  by_cases h2 : o.kind = 2
  ·
   obtain ⟨ha, hv, _⟩ := h.call (.inl h2)
   have hid := h.id (.inl h2)
   have e : (opK p o).drop 0 = nTk wMod :: nTk s.data.toList :: vTk o.id :: callK p o.ca o.cargs := by rw [List.drop_zero, opK, if_neg h1, if_pos h2, ht2]
   generalize hts : opK p o = ts at *
   have e1 := (at_next e).2.1
   have e2 := (at_next e1).2.1
   have e3 := (at_next e2).2.1
   have hc := call_at ha hv e3
   have hl : ts.length = 0 + 1 + 1 + 1 + (callK p o.ca o.cargs).length := by
    rw [← hts, opK, if_neg h1, if_pos h2]
    simp only [List.length_cons]
    omega
   unfold opA
   rw [(at_next e).1]
   have hw : kindW (nTk wMod).text = 2 := by decide
   simp only [hw]
   rw [if_neg (by decide), if_neg (by decide), if_pos trivial]
   simp only [show (PS.ok 1) = PS.ok (0 + 1) from rfl, res_at e1 ht3, num_at e2, hc]
   rw [canO, if_neg h1, if_pos h2, hl]
   have e4 : ((o.id.toNat : Nat) : Int) = o.id := by have := hid.1; omega
   rw [e4, ht1]
  ·
   by_cases h3 : o.kind = 3
   ·
    have hid := h.id (.inr h3)
    have e : (opK p o).drop 0 = [nTk wDel, nTk s.data.toList, vTk o.id] := by rw [List.drop_zero, opK, if_neg h1, if_neg h2, if_pos h3, ht2]
    generalize hts : opK p o = ts at *
    have e1 := (at_next e).2.1
    have e2 := (at_next e1).2.1
    have hl : ts.length = 0 + 1 + 1 + 1 := by
     rw [← hts, opK, if_neg h1, if_neg h2, if_pos h3]
     rfl
    unfold opA
    rw [(at_next e).1]
    have hw : kindW (nTk wDel).text = 3 := by decide
    simp only [hw]
    rw [if_neg (by decide), if_neg (by decide), if_neg (by decide), if_pos trivial]
    simp only [show (PS.ok 1) = PS.ok (0 + 1) from rfl, res_at e1 ht3, num_at e2]
    rw [canO, if_neg h1, if_neg h2, if_pos h3, hl]
    have e4 : ((o.id.toNat : Nat) : Int) = o.id := by have := hid.1; omega
    rw [e4, ht1]
   ·
    have h4 : o.kind = 4 := by omega
    obtain ⟨ha, hv, _⟩ := h.call (.inr h4)
    have e : (opK p o).drop 0 = nTk wDef :: nTk s.data.toList :: callK p o.ca o.cargs := by rw [List.drop_zero, opK, if_neg h1, if_neg h2, if_neg h3, ht2]
    generalize hts : opK p o = ts at *
    have e1 := (at_next e).2.1
    have e2 := (at_next e1).2.1
    have hc := call_at ha hv e2
    have hl : ts.length = 0 + 1 + 1 + (callK p o.ca o.cargs).length := by
     rw [← hts, opK, if_neg h1, if_neg h2, if_neg h3]
     simp only [List.length_cons]
     omega
    unfold opA
    rw [(at_next e).1]
    have hw : kindW (nTk wDef).text = 4 := by decide
    simp only [hw]
    rw [if_neg (by decide), if_neg (by decide), if_neg (by decide), if_neg (by decide)]
    simp only [show (PS.ok 1) = PS.ok (0 + 1) from rfl, res_at e1 ht3, hc]
    rw [canO, if_neg h1, if_neg h2, if_neg h3, hl, ht1]
theorem word_ident : identM wIns = true ∧ identM wMod = true ∧ identM wDel = true ∧ identM wDef = true ∧ identM wPrio = true := by decide
theorem itoa_decO {n : Int} (h : U32 n) : Lib.itoa n = decI n := itoa_nonneg n h.1 (by have := h.2; omega)
theorem opT_tok {p : ProgD} {o : OpP} (h : OpWell p o) : TokTo (opT p o) [] (opK p o) := by
 have hk := h.kind
 have hwi := word_ident
 have n32 : ∀ l, noWord (32 :: l) := fun l => nw_cons (by decide)
 by_cases h1 : o.kind = 1
 ·
  obtain ⟨ha, hv, hks, hp, hn1, hn2⟩ := h.ins h1
  rw [opT, if_pos h1, itoa_decO hp, opK, if_pos h1]
  simp only [List.append_assoc, List.singleton_append]
  refine tok_name hwi.1 (n32 _) (by decide) (tok_space (tok_name h.tident ?_ (by decide) (tok_keys o.keys hks (n32 _) (by simp; omega) (tok_space (tok_name hwi.2.2.2.2 (n32 _) (by simp [keyK_len]; omega) (tok_space (tok_v hp (n32 _) (by simp [keyK_len]; omega) (tok_space ?_))))))))
  ·
   cases hks' : o.keys with
   | nil => simpa [keysT] using n32 _
   | cons x l =>
    simp only [keysT, List.map_cons, List.flatten_cons, List.cons_append]
    exact n32 _
  ·
   have hc := tok_call (p := p) (a := o.ea) (l := o.eargs) (out := [] ++ [⟨1, wIns, 0, 1⟩] ++ [⟨1, nameT p o.table, 0, 1⟩] ++ keyK o.keys ++ [⟨1, wPrio, 0, 1⟩] ++ [vTk o.prio]) ha.ident hv (by simp [keyK_len]; omega)
   simpa [nTk, List.append_assoc] using hc
 ·
  by_cases h2 : o.kind = 2
  ·
   obtain ⟨ha, hv, hn2⟩ := h.call (.inl h2)
   have hid := h.id (.inl h2)
   rw [opT, if_neg h1, if_pos h2, itoa_decO hid, opK, if_neg h1, if_pos h2]
   simp only [List.append_assoc, List.singleton_append]
   refine tok_name hwi.2.1 (n32 _) (by decide) (tok_space (tok_name h.tident (n32 _) (by decide) (tok_space (tok_v hid (n32 _) (by simp) (tok_space ?_)))))
   have hc := tok_call (p := p) (a := o.ca) (l := o.cargs) (out := [] ++ [⟨1, wMod, 0, 1⟩] ++ [⟨1, nameT p o.table, 0, 1⟩] ++ [vTk o.id]) ha.ident hv (by simp; omega)
   simpa [nTk, List.append_assoc] using hc
  ·
   by_cases h3 : o.kind = 3
   ·
    have hid := h.id (.inr h3)
    rw [opT, if_neg h1, if_neg h2, if_pos h3, itoa_decO hid, opK, if_neg h1, if_neg h2, if_pos h3]
    simp only [List.append_assoc, List.singleton_append]
    refine tok_name hwi.2.2.1 (n32 _) (by decide) (tok_space (tok_name h.tident (n32 _) (by decide) (tok_space ?_)))
    have hc := tok_v (l := []) (out := [] ++ [⟨1, wDel, 0, 1⟩] ++ [⟨1, nameT p o.table, 0, 1⟩]) hid nw_nil (by simp) (tok_nil _)
    simpa [nTk, List.append_assoc] using hc
   ·
    have h4 : o.kind = 4 := by omega
    obtain ⟨ha, hv, hn2⟩ := h.call (.inr h4)
    rw [opT, if_neg h1, if_neg h2, if_neg h3, opK, if_neg h1, if_neg h2, if_neg h3]
    simp only [List.append_assoc, List.singleton_append]
    refine tok_name hwi.2.2.2.1 (n32 _) (by decide) (tok_space (tok_name h.tident (n32 _) (by decide) (tok_space ?_)))
    have hc := tok_call (p := p) (a := o.ca) (l := o.cargs) (out := [] ++ [⟨1, wDef, 0, 1⟩] ++ [⟨1, nameT p o.table, 0, 1⟩]) ha.ident hv (by simp; omega)
    simpa [nTk, List.append_assoc] using hc
theorem act_at {p : ProgD} (h : checkM p = none) {j : Nat} (hj : j < p.actions.l.length) : ActAt p (j : Int) := by
 have e : namesOf p 4 = p.actions.l.map ActD.name := by simp [namesOf]
 have h1 := names_first h 4 j (by rw [e]; simpa using hj)
 simp only [e, List.getElem_map] at h1
 exact ⟨by rw [nameA_at hj, ident_list]; exact act_ident h hj, j, p.actions.l[j].name, rfl, nameA_at hj, h1⟩
theorem tab_at {p : ProgD} (h : checkM p = none) {j : Nat} (hj : j < p.tables.l.length) : lookM (p.tables.l.map TabD.name) p.tables.l[j].name = ((j : Int), true) := by
 have e : namesOf p 5 = p.tables.l.map TabD.name := by simp [namesOf]
 have h1 := names_first h 5 j (by rw [e]; simpa using hj)
 simpa only [e, List.getElem_map] using h1
theorem may_act {p : ProgD} (hc : checkM p = none) {t : TabD} {a : Int} {args : List Int} (h : mayM p t a args = 0) : ActAt p a := by
 unfold mayM at h
 split at h
 ·
  unfold callM at h
  split at h
  · cases h
  ·
   rename_i h0
   obtain ⟨j, rfl⟩ : ∃ j : Nat, a = j := ⟨a.toNat, by omega⟩
   rw [Int.toNat_natCast] at h
   rcases Nat.lt_or_ge j p.actions.l.length with hj | hj
   · exact act_at hc hj
   ·
    rw [List.getElem?_eq_none hj] at h
    cases h
 · cases h
theorem u32_wf {v : Int} (h : (Lit.int .u32 v).wf = true) : U32 v := by
 obtain ⟨n, rfl, hn⟩ := wf_u32 h
 exact ⟨by omega, by omega⟩
structure OpShort (o : OpP) : Prop where
 keys : o.keys.length ≤ 30
 eargs : o.eargs.length ≤ 30
 cargs : o.cargs.length ≤ 30
theorem op_well {p : ProgD} (hc : checkM p = none) {o : OpP} (hf : OpFine o) (hs : OpShort o) (h : opChk p o = 0) : OpWell p o := by
 unfold opChk at h
 split at h
 · cases h
 ·
  rename_i hk
  split at h
  · cases h
  ·
   rename_i ht
   obtain ⟨j, hj⟩ : ∃ j : Nat, o.table = j := ⟨o.table.toNat, by omega⟩
   rw [hj, Int.toNat_natCast] at h
   rcases Nat.lt_or_ge j p.tables.l.length with hlt | hlt
   ·
    rw [List.getElem?_eq_getElem hlt] at h
    simp only at h
    refine ⟨by omega, by rw [hj, nameT_at hlt, ident_list]; exact tab_ident hc hlt, ⟨j, _, hj, by rw [hj]; exact nameT_at hlt, tab_at hc hlt⟩, fun h1 => ?_, fun h24 => ?_, fun h23 => ?_⟩
    ·
     rw [if_pos h1] at h
     unfold entM at h
     split at h
     · cases h
     ·
      split at h
      ·
       rename_i e he
       exfalso
       obtain ⟨i, _, hi⟩ := firstE_mem he
       unfold keyErrM at hi
       split at hi
       ·
        split at hi
        ·
         rename_i hne
         cases hi
         exact hne h
        · cases hi
       · cases hi
      ·
       split at h
       · cases h
       ·
        rename_i hp
        split at h
        · cases h
        · exact ⟨may_act hc h, fun v hv => u32_wf (hf.eargs v hv), fun k hk => ⟨u32_wf (hf.keys k hk).1, u32_wf (hf.keys k hk).2⟩, ⟨by omega, by omega⟩, by have := hs.keys; omega, by have := hs.eargs; omega⟩
    ·
     rw [if_neg (by omega)] at h
     split at h
     · cases h
     ·
      rw [if_neg (by omega)] at h
      exact ⟨may_act hc h, fun v hv => u32_wf (hf.cargs v hv), by have := hs.cargs; omega⟩
    ·
     rw [if_neg (by omega)] at h
     split at h
     · cases h
     ·
      rename_i hid
      exact ⟨by omega, by omega⟩
   ·
    rw [List.getElem?_eq_none hlt] at h
    cases h
theorem can_chk (p : ProgD) {o : OpP} (hk : 1 ≤ o.kind ∧ o.kind ≤ 4) : opChk p (canO o) = opChk p o := by
 unfold canO opChk
 by_cases h1 : o.kind = 1
 · simp [h1]
 ·
  by_cases h2 : o.kind = 2
  · simp [h2]
  ·
   by_cases h3 : o.kind = 3
   · simp [h3]
   ·
    have h4 : o.kind = 4 := by omega
    simp [h4]
theorem can_txt (p : ProgD) {o : OpP} (hk : 1 ≤ o.kind ∧ o.kind ≤ 4) : opT p (canO o) = opT p o := by
 unfold canO opT
 by_cases h1 : o.kind = 1
 · simp [h1]
 ·
  by_cases h2 : o.kind = 2
  · simp [h2]
  ·
   by_cases h3 : o.kind = 3
   · simp [h3]
   ·
    have h4 : o.kind = 4 := by omega
    simp [h4]
theorem decI_len (v : Int) : (decI v).length ≤ 20 := decD_len 20 _
theorem keysT_len : ∀ (l : List KmD), (keysT l).length ≤ 42 * l.length
 | [] => by simp [keysT]
 | k :: l => by
  have h1 := keysT_len l
  have h2 := decI_len k.v
  have h3 := decI_len k.m
  have e : keysT (k :: l) = 32 :: (decI k.v ++ (47 :: (decI k.m ++ keysT l))) := by simp [keysT, keyT]
  rw [e]
  simp only [List.length_cons, List.length_append]
  omega
theorem tail_len : ∀ (l : List Int), (Lib.joinTail [44, 32] (l.map decI)).length ≤ 22 * l.length
 | [] => by simp [Lib.joinTail]
 | v :: l => by
  have h1 := tail_len l
  have h2 := decI_len v
  have e : Lib.joinTail [44, 32] ((v :: l).map decI) = 44 :: 32 :: (decI v ++ Lib.joinTail [44, 32] (l.map decI)) := by simp [Lib.joinTail]
  rw [e]
  simp only [List.length_cons, List.length_append]
  omega
theorem argsX_len (l : List Int) : (argsX l).length ≤ 22 * l.length := by
 cases l with
 | nil => simp [argsX, Lib.join_nil]
 | cons v l =>
  have h1 := tail_len l
  have h2 := decI_len v
  rw [argsX, List.map_cons, Lib.join_cons]
  simp only [List.length_cons, List.length_append]
  omega
theorem callT_len {p : ProgD} {a : Int} (h : identM (nameA p a) = true) (l : List Int) : (callT p a l).length ≤ 18 + 22 * l.length := by
 have h1 := ident_len h
 have h2 := argsX_len l
 simp only [callT, List.length_append, List.length_cons, List.length_nil]
 omega
theorem opT_len {p : ProgD} {o : OpP} (h : OpWell p o) (hs : OpShort o) : (opT p o).length ≤ 16384 := by
 have hk := h.kind
 have ht := ident_len h.tident
 unfold opT
 by_cases h1 : o.kind = 1
 ·
  obtain ⟨ha, _, _, hp, _⟩ := h.ins h1
  have h2 := callT_len ha.ident o.eargs
  have h3 := keysT_len o.keys
  have h4 := decI_len o.prio
  have := hs.keys
  have := hs.eargs
  rw [if_pos h1, itoa_decO hp]
  simp only [List.length_append, List.length_cons, List.length_nil, wIns, wPrio, wArrow]
  omega
 ·
  rw [if_neg h1]
  by_cases h2 : o.kind = 2
  ·
   have h3 := callT_len (h.call (.inl h2)).1.ident o.cargs
   have h4 := decI_len o.id
   have := hs.cargs
   rw [if_pos h2, itoa_decO (h.id (.inl h2))]
   simp only [List.length_append, List.length_cons, List.length_nil, wMod, wArrow]
   omega
  ·
   rw [if_neg h2]
   by_cases h3 : o.kind = 3
   ·
    have h4 := decI_len o.id
    rw [if_pos h3, itoa_decO (h.id (.inr h3))]
    simp only [List.length_append, List.length_cons, List.length_nil, wDel]
    omega
   ·
    have h5 := callT_len (h.call (.inr (by omega))).1.ident o.cargs
    have := hs.cargs
    rw [if_neg h3]
    simp only [List.length_append, List.length_cons, List.length_nil, wDef, wArrow]
    omega
theorem read_back {p : ProgD} (hc : checkM p = none) {o : OpP} (hf : OpFine o) (hs : OpShort o) (h : opChk p o = 0) :
  readM p (opT p o) = (canO o, 0) ∧ opChk p (canO o) = 0 ∧ opT p (canO o) = opT p o ∧ (canO o).kind = o.kind ∧ (canO o).table = o.table := by
 have hw := op_well hc hf hs h
 have h1 : opChk p (canO o) = 0 := by rw [can_chk p hw.kind, h]
 have h2 := can_txt p hw.kind
 have ht : tokenize (opT p o) = (opK p o, 0, 0) := by
  have := opT_len hw hs
  rw [tokenize, if_neg (by omega)]
  exact opT_tok hw _ (Nat.le_refl _)
 refine ⟨?_, h1, h2, ?_, ?_⟩
 ·
  unfold readM
  rw [ht, if_neg (by simp)]
  simp only [opA_at hw, endA, Nat.lt_irrefl, if_false]
  rw [if_neg (by simp [h1]), if_neg (by simp [h2])]
 ·
  have := hw.kind
  unfold canO
  split
  · exact Eq.symm ‹_›
  ·
   split
   · exact Eq.symm ‹_›
   ·
    split
    · exact Eq.symm ‹_›
    · simp only; omega
 ·
  unfold canO
  split
  · rfl
  ·
   split
   · rfl
   ·
    split
    · rfl
    · rfl
theorem oParse_any (p : ProgD) (s : ByteArray) (w : World) (G : ProgG w p) (hs : s.size ≤ maxLen) (ht : Tab w) :
  Calls Tryz.prog 12 #[.agg (progCells p), .string s] w (ParseEnd w (parseOpM p s.data.toList)) := by
 obtain ⟨W, hW, hw, hsz, b0, b1⟩ := box2P w (progCells p) #[.int .i64 0, .int .i64 0, .int .i64 0, .slice none 0 0, .int .i64 0, .int .i64 0, .slice none 0 0, .int .i64 0, .slice none 0 0] 31 39
 have HW := hi_ hw
 have HSz := hi_ hsz
 have HPB := hi_ b0
 have HRB := hi_ b1
 have HG := hi_ (G.below hw)
 have HT := hi_ (ht.base hw)
 have HCk := hi_ (check_any p W HG.out.ok G.cap G.nodes)
 have HPM := hi_ (parseOpM.eq_1 p s.data.toList)
 have HPA := hi_ (fun (hz : (diagM p).code = 0) u (hb : Below W.heap.size W u) => oparse_any p s u (HG.out.below hb) (diagM_ok hz) hs (HT.out.base hb))
 clear hw hsz b0 b1 G ht hs
 simp only [diag_val] at HCk
 generalize parseOpM p s.data.toList = R at *
 generalize readM p s.data.toList = R2 at *
 generalize diagM p = d at *
 obtain ⟨dc, dp, di, ds⟩ := d
 simp only at HCk HPM HPA
 have hp3 : ∀ i, W.cell? ⟨w.heap.size, i, none⟩ = (progCells p)[i]? := fun i => HPB.out.cell i
 go_enter Tryz.func12, Tryz.ntmps12
 go_upto_region 1 with fail
 rw [← hW]
 clear hW
 go_wp2_with fail
 refine HCk.out.mono ?_
 rintro e1 w1 ⟨rfl, hb1⟩
 obtain ⟨X, hX⟩ : ∃ X, X = w1.alloc (.cells #[.int .i64 dc, .int .i64 dp, .int .i64 di, .int .i64 ds] 70) := ⟨_, rfl⟩
 have hbX : Below W.heap.size W X := by rw [hX]; exact below_alloc hb1 _
 have HBX := hi_ hbX
 have HXB : Hid (Blk X w1.heap.size 70 #[.int .i64 dc, .int .i64 dp, .int .i64 di, .int .i64 ds]) := hi_ (by rw [hX]; exact Blk.new _ _ _)
 have HRX := hi_ (HRB.out.below hbX HRB.out.lt)
 have HPX := hi_ (HPB.out.below hbX HPB.out.lt)
 have HNE : Hid (w.heap.size + 1 < w1.heap.size) := hi_ (by have h1 := hb1.size; have h2 := HSz.out; omega)
 clear hp3 HCk hb1 hbX
 go_upto_region 2 with fail
 rw [← hX]
 clear hX
 have hd : X.cell? ⟨w1.heap.size, 0, none⟩ = some (.int .i64 dc) := HXB.out.cell 0
 by_cases hz : dc = 0
 ·
  have HRR := tr_ HPM (if_neg (fun h => h hz))
  have HP := hi_ (HPA.out hz X HBX.out)
  subst hz
  clear HPM HPA
  have hp3 : ∀ i, X.cell? ⟨w.heap.size, i, none⟩ = (progCells p)[i]? := fun i => HPX.out.cell i
  go_wp2_with fail
  refine HP.out.mono ?_
  rintro e4 w4 ⟨o, rfl, hob, hL, hb4⟩
  have HB4 := hi_ (below_step HBX.out hb4)
  have HR4 := hi_ (HRX.out.below hb4 HRX.out.lt)
  have HK4 : Hid (OpLies w4 o (w.heap.size + 2)) := hi_ (hL.mono (by have h1 := HBX.out.size; have h2 := HSz.out; omega))
  have HRR2 : Hid (R = (o.bare, R2.2)) := hi_ (by rw [HRR.out, hob])
  clear hob hL hb4 HRR HP hp3
  obtain ⟨kd, tb, id, ⟨kl, kA, kc⟩, pr, ea, ⟨el, eA, ec⟩, ca, ⟨cl, cA, cc⟩⟩ := o
  obtain ⟨R2o, z⟩ := R2
  simp only at HRR2 ⊢
  have q0 : w4.cell? ⟨w.heap.size + 1, 0, none⟩ = some (.int .i64 0) := HR4.out.cell 0
  have g0 : w4.frozen? ⟨w.heap.size + 1, 0, none⟩ = false := HR4.out.frozen 0
  have q1 : w4.cell? ⟨w.heap.size + 1, 1, none⟩ = some (.int .i64 0) := HR4.out.cell 1
  have g1 : w4.frozen? ⟨w.heap.size + 1, 1, none⟩ = false := HR4.out.frozen 1
  have q2 : w4.cell? ⟨w.heap.size + 1, 2, none⟩ = some (.int .i64 0) := HR4.out.cell 2
  have g2 : w4.frozen? ⟨w.heap.size + 1, 2, none⟩ = false := HR4.out.frozen 2
  have q3 : w4.cell? ⟨w.heap.size + 1, 3, none⟩ = some (.slice none 0 0) := HR4.out.cell 3
  have g3 : w4.frozen? ⟨w.heap.size + 1, 3, none⟩ = false := HR4.out.frozen 3
  have q4 : w4.cell? ⟨w.heap.size + 1, 4, none⟩ = some (.int .i64 0) := HR4.out.cell 4
  have g4 : w4.frozen? ⟨w.heap.size + 1, 4, none⟩ = false := HR4.out.frozen 4
  have q5 : w4.cell? ⟨w.heap.size + 1, 5, none⟩ = some (.int .i64 0) := HR4.out.cell 5
  have g5 : w4.frozen? ⟨w.heap.size + 1, 5, none⟩ = false := HR4.out.frozen 5
  have q6 : w4.cell? ⟨w.heap.size + 1, 6, none⟩ = some (.slice none 0 0) := HR4.out.cell 6
  have g6 : w4.frozen? ⟨w.heap.size + 1, 6, none⟩ = false := HR4.out.frozen 6
  have q7 : w4.cell? ⟨w.heap.size + 1, 7, none⟩ = some (.int .i64 0) := HR4.out.cell 7
  have g7 : w4.frozen? ⟨w.heap.size + 1, 7, none⟩ = false := HR4.out.frozen 7
  have q8 : w4.cell? ⟨w.heap.size + 1, 8, none⟩ = some (.slice none 0 0) := HR4.out.cell 8
  have g8 : w4.frozen? ⟨w.heap.size + 1, 8, none⟩ = false := HR4.out.frozen 8
  go_wp2
  refine bodyPost_ret (v := .tuple #[.agg (opCells ⟨kd, tb, id, ⟨kl, kA, kc⟩, pr, ea, ⟨el, eA, ec⟩, ca, ⟨cl, cA, cc⟩⟩), .int .i64 z]) ?_ rfl ?_
  · exact results_row_tmp (fn := Tryz.f12) (p := 4) (u := 5) (ty := 39) rfl _ _ (w.heap.size + 1) 39 (opCells ⟨kd, tb, id, ⟨kl, kA, kc⟩, pr, ea, ⟨el, eA, ec⟩, ca, ⟨cl, cA, cc⟩⟩) _ rfl (put9O HR4.out _ _ _ _ _ _ _ _ _) Tryz.underlying39 rfl (by kernel_rfl)
  · exact parse_end (o := ⟨kd, tb, id, ⟨kl, kA, kc⟩, pr, ea, ⟨el, eA, ec⟩, ca, ⟨cl, cA, cc⟩⟩) (by rw [HRR2.out]) (below_step HW.out HB4.out) HK4.out _ _ _ _ _ _ _ _ _
 ·
  have HRR := tr_ HPM (if_pos hz)
  have hz' : (dc != 0) = true := bne_iff_ne.2 hz
  clear HPM HPA hz
  have HCR := hi_ hd
  go_upto_region 3 with fail
  clear hd
  refine wp_region_held_drew (S := (fun u => u.cell? ⟨w1.heap.size, 0, none⟩ = some (.int .i64 dc))) (by kernel_rfl) (HCR.out) (fun hHeld => ?_)
  refine wpAnyH_take (i := 0) (oi := { dst := some 12, op := Op.build 39 #[], type := 39, pos := "optext.go:220", after := #[], guard := none }) (v := ?a1_v0) rfl (by kernel_rfl) (by kernel_rfl) (by kernel_rfl) (fun _ _ _ h => h) (Or.inl ⟨by rfl, ?a1_y0⟩) (by assumption) ?a1_r0
  case a1_y0 => (intro w hSw; (try dsimp only at hSw); go_simp; try (with_reducible rfl))
  try simp only [Act.put, sA, sZ, sS]
  refine wpAnyH_take (i := 1) (oi := { dst := some 13, op := Op.fieldAddr 70 (Operand.tmp 6) 0, type := 0, pos := "optext.go:220", after := #[{ on := 3, ground := Ground.gcOnly Departure.lateStores }], guard := none }) (v := ?a2_v1) rfl (by kernel_rfl) (by kernel_rfl) (by kernel_rfl) (fun _ _ _ h => h) (Or.inl ⟨by rfl, ?a2_y1⟩) (by assumption) ?a2_r1
  case a2_y1 => (intro w hSw; (try dsimp only at hSw); go_simp; try (with_reducible rfl))
  try simp only [Act.put, sA, sZ, sS]
  refine wpAnyH_take (i := 2) (oi := { dst := some 14, op := Op.load 43 (Operand.tmp 13), type := 43, pos := "optext.go:220", after := #[{ on := 1, ground := Ground.data }, { on := 3, ground := Ground.gcOnly Departure.lateStores }], guard := none }) (v := ?a3_v2) rfl (by kernel_rfl) (by kernel_rfl) (by kernel_rfl) (fun _ _ _ h => h) (Or.inl ⟨by rfl, ?a3_y2⟩) (by assumption) ?a3_r2
  case a3_y2 => (intro w hSw; (try dsimp only at hSw); go_simp; try (with_reducible rfl))
  try simp only [Act.put, sA, sZ, sS]
  refine wpAnyH_ready (rs := [3]) (by kernel_rfl) (by simp) ?_
  refine AllReadyH.cons (o := { dst := none, op := Op.store 39 (Operand.tmp 4) (Operand.tmp 12), type := 0, pos := "optext.go:220", after := #[{ on := 0, ground := Ground.data }, { on := 0, ground := Ground.phase }, { on := 1, ground := Ground.textOnly Departure.lateStores }, { on := 2, ground := Ground.textOnly Departure.lateStores }], guard := none }) rfl (fun K hK => ?_) (AllReadyH.nil)
  have q0 : X.cell? ⟨w.heap.size + 1, 0, none⟩ = some (.int .i64 0) := HRX.out.cell 0
  have g0 : X.frozen? ⟨w.heap.size + 1, 0, none⟩ = false := HRX.out.frozen 0
  have q1 : X.cell? ⟨w.heap.size + 1, 1, none⟩ = some (.int .i64 0) := HRX.out.cell 1
  have g1 : X.frozen? ⟨w.heap.size + 1, 1, none⟩ = false := HRX.out.frozen 1
  have q2 : X.cell? ⟨w.heap.size + 1, 2, none⟩ = some (.int .i64 0) := HRX.out.cell 2
  have g2 : X.frozen? ⟨w.heap.size + 1, 2, none⟩ = false := HRX.out.frozen 2
  have q3 : X.cell? ⟨w.heap.size + 1, 3, none⟩ = some (.slice none 0 0) := HRX.out.cell 3
  have g3 : X.frozen? ⟨w.heap.size + 1, 3, none⟩ = false := HRX.out.frozen 3
  have q4 : X.cell? ⟨w.heap.size + 1, 4, none⟩ = some (.int .i64 0) := HRX.out.cell 4
  have g4 : X.frozen? ⟨w.heap.size + 1, 4, none⟩ = false := HRX.out.frozen 4
  have q5 : X.cell? ⟨w.heap.size + 1, 5, none⟩ = some (.int .i64 0) := HRX.out.cell 5
  have g5 : X.frozen? ⟨w.heap.size + 1, 5, none⟩ = false := HRX.out.frozen 5
  have q6 : X.cell? ⟨w.heap.size + 1, 6, none⟩ = some (.slice none 0 0) := HRX.out.cell 6
  have g6 : X.frozen? ⟨w.heap.size + 1, 6, none⟩ = false := HRX.out.frozen 6
  have q7 : X.cell? ⟨w.heap.size + 1, 7, none⟩ = some (.int .i64 0) := HRX.out.cell 7
  have g7 : X.frozen? ⟨w.heap.size + 1, 7, none⟩ = false := HRX.out.frozen 7
  have q8 : X.cell? ⟨w.heap.size + 1, 8, none⟩ = some (.slice none 0 0) := HRX.out.cell 8
  have g8 : X.frozen? ⟨w.heap.size + 1, 8, none⟩ = false := HRX.out.frozen 8
  have hfar : Blk ((((((((((X.setCell ⟨w.heap.size + 1, 0, none⟩ (.int .i64 0)).setCell ⟨w.heap.size + 1, 1, none⟩ (.int .i64 0)).setCell ⟨w.heap.size + 1, 2, none⟩ (.int .i64 0)).setCell ⟨w.heap.size + 1, 3, none⟩ (.slice none 0 0)).setCell ⟨w.heap.size + 1, 4, none⟩ (.int .i64 0)).setCell ⟨w.heap.size + 1, 5, none⟩ (.int .i64 0)).setCell ⟨w.heap.size + 1, 6, none⟩ (.slice none 0 0)).setCell ⟨w.heap.size + 1, 7, none⟩ (.int .i64 0)).setCell ⟨w.heap.size + 1, 8, none⟩ (.slice none 0 0)).drew) w1.heap.size 70 #[.int .i64 dc, .int .i64 dp, .int .i64 di, .int .i64 ds] := Blk.drew (far9 (k := w.heap.size + 1) HXB.out (by have := HNE.out; omega) (.int .i64 0) (.int .i64 0) (.int .i64 0) (.slice none 0 0) (.int .i64 0) (.int .i64 0) (.slice none 0 0) (.int .i64 0) (.slice none 0 0))
  have hNEW := hfar.cell 0
  clear hfar
  go_simp
  refine hK.out _ _ hNEW (fun hHeld7 => ?_)
  clear hK K hNEW
  refine wpAnyH_take (i := 4) (oi := { dst := some 5, op := Op.assign (Operand.tmp 14), type := 43, pos := "optext.go:220", after := #[{ on := 2, ground := Ground.data }, { on := 3, ground := Ground.chain }, { on := 0, ground := Ground.phase }, { on := 1, ground := Ground.phase }, { on := 2, ground := Ground.phase }, { on := 3, ground := Ground.phase }], guard := none }) (v := ?a4_v4) rfl (by kernel_rfl) (by kernel_rfl) (by kernel_rfl) (fun _ _ _ h => h) (Or.inl ⟨by rfl, ?a4_y4⟩) (by assumption) ?a4_r4
  case a4_y4 => (intro w hSw; (try dsimp only at hSw); go_simp; try (with_reducible rfl))
  try simp only [Act.put, sA, sZ, sS]
  refine wpAnyH_done (by kernel_rfl) ?_ _
  go_wp2
  refine bodyPost_ret (v := .tuple #[.agg (opCells zeroO), .int .i64 dc]) ?_ rfl ?_
  · exact results_row_tmp (fn := Tryz.f12) (p := 4) (u := 5) (ty := 39) rfl _ _ (w.heap.size + 1) 39 (opCells zeroO) _ rfl (put9O HRX.out _ _ _ _ _ _ _ _ _).drew Tryz.underlying39 rfl (by kernel_rfl)
  · exact parse_drew (parse_end (o := zeroO) (by rw [HRR.out]; rfl) (below_step HW.out HBX.out) (zero_lies _ _) _ _ _ _ _ _ _ _ _)
theorem split_lines : ∀ (s : List UInt8), Lib.splitK [10] 0 (Lib.count s [10]) s = linesM s
 | [] => by rw [Lib.count_miss (by simp [Lib.index])]; rfl
 | c :: r => by
  have ih := split_lines r
  by_cases h : c = 10
  ·
   subst h
   have hix : Lib.index (10 :: r) [10] = 0 := by rw [Lib.index]; simp [List.isPrefixOf]
   rw [Lib.count_cons_eq, Nat.add_comm, Lib.splitK, hix, if_neg (by decide), linesM, if_pos rfl, ← ih]
   rfl
  ·
   have hp : ([10] : List UInt8).isPrefixOf (c :: r) = false := by simp [List.isPrefixOf, Ne.symm h]
   have hix : Lib.index (c :: r) [10] = if Lib.index r [10] == -1 then -1 else Lib.index r [10] + 1 := by rw [Lib.index, hp]; simp
   rw [Lib.count_cons_ne c 10 r h, linesM, if_neg h, ← ih]
   rcases hk : Lib.count r [10] with _ | k
   · rfl
   ·
    by_cases hm : Lib.index r [10] = -1
    · rw [Lib.count_miss hm] at hk; cases hk
    ·
     have hge := Lib.index_ge r [10]
     obtain ⟨j, hj⟩ : ∃ j : Nat, Lib.index r [10] = j := ⟨(Lib.index r [10]).toNat, by omega⟩
     have hix' : Lib.index (c :: r) [10] = ((j + 1 : Nat) : Int) := by rw [hix, if_neg (fun e => hm (beq_iff_eq.1 e)), hj]; omega
     have n1 : ¬ (((j + 1 : Nat) : Int) == -1) = true := by rw [beq_iff_eq]; omega
     have n2 : ¬ ((j : Int) == -1) = true := by rw [beq_iff_eq]; omega
     rw [Lib.splitK, Lib.splitK, hix', hj, if_neg n1, if_neg n2]
     simp
theorem drop_all {l : List UInt8} : l.dropWhile (· == 32) = [] ↔ blankM l = true := by
 induction l with
 | nil => simp [blankM]
 | cons c l ih =>
  rw [List.dropWhile_cons]
  by_cases h : c = 32
  ·
   subst h
   simp only [beq_self_eq_true, if_true]
   rw [ih]
   simp [blankM]
  ·
   rw [if_neg (by simpa using h)]
   simp [blankM, h]
theorem trim_blank (l : List UInt8) : Lib.trimB l 32 = [] ↔ blankM l = true := by
 have hb : ∀ m : List UInt8, blankM m = true ↔ ∀ c ∈ m, c = 32 := fun m => by simp [blankM]
 rw [Lib.trimB, Lib.trimLeftB, drop_all, hb, Lib.trimRightB]
 constructor
 ·
  intro h
  have h2 : blankM (l.reverse.dropWhile (· == 32)) = true := (hb _).2 fun c hc => h c (by simpa using hc)
  have h3 : l.reverse.dropWhile (· == 32) = [] := by
   rcases he : l.reverse.dropWhile (· == 32) with _ | ⟨c, r⟩
   · rfl
   ·
    have h4 := List.head_dropWhile_not (p := (· == 32)) (l := l.reverse) (by rw [he]; simp)
    simp only [he, List.head_cons] at h4
    have h5 := (hb _).1 h2 c (by rw [he]; exact List.mem_cons_self ..)
    subst h5
    cases h4
  rw [drop_all, hb] at h3
  rw [hb]
  exact fun c hc => h3 c (by simpa using hc)
 ·
  intro h c hc
  rw [hb] at h
  simp only [List.mem_reverse] at hc
  have := List.dropWhile_subset _ hc
  exact h c (by simpa using this)
def opL (o : OpD) : List Value := [.int .i64 o.kind, .int .i64 o.table, .int .i64 o.id, o.keys.v, .int .i64 o.prio, .int .i64 o.ea, o.eargs.v, .int .i64 o.ca, o.cargs.v]
theorem lines_le : ∀ (s l : List UInt8), l ∈ linesM s → l.length ≤ s.length
 | [], l, h => by
  rw [linesM, List.mem_singleton] at h
  subst h; exact Nat.le_refl _
 | c :: r, l, h => by
  rw [linesM] at h
  split at h
  ·
   rcases List.mem_cons.1 h with h | h
   · subst h; exact Nat.zero_le _
   · exact Nat.le_succ_of_le (lines_le r l h)
  ·
   split at h
   ·
    rw [List.mem_singleton] at h
    subst h; simp
   ·
    rename_i m q hq
    rcases List.mem_cons.1 h with h | h
    ·
     subst h
     have := lines_le r m (by rw [hq]; exact List.mem_cons_self ..)
     simp only [List.length_cons]; omega
    · exact Nat.le_succ_of_le (lines_le r l (by rw [hq]; exact List.mem_cons_of_mem _ h))
theorem lines_len : ∀ (s : List UInt8), (linesM s).length ≤ s.length + 1
 | [] => by simp [linesM]
 | c :: r => by
  have h := lines_len r
  rw [linesM]
  split
  · simp only [List.length_cons]; omega
  ·
   split
   · simp
   ·
    rename_i m q hq
    rw [hq] at h
    simp only [List.length_cons] at h ⊢; omega
def strL (b : ByteArray) : List Value := [.string b]
theorem strL_at {w : World} {x : L ByteArray} (h : LOk w 1 strL x) {i : Nat} (hi : i < x.l.length) : ∃ g o, x.A = some ⟨g, o, none⟩ ∧ w.cell? ⟨g, o + i, none⟩ = some (.string x.l[i]) := by
 obtain ⟨g, o, e, _, hc⟩ := h.at hi
 exact ⟨g, o, e, by have := hc 0 (by omega); rw [Nat.mul_one] at this; exact this⟩
def MaxI (w : World) : Prop := 0 < w.heap.size ∧ ∃ m : Int, w.cell? ⟨0, 0, none⟩ = some (.int .i64 m)
theorem MaxI.below {w w' : World} (h : MaxI w) {B : Nat} (hb : Below B w w') (hB : w.heap.size ≤ B) : MaxI w' := by
 obtain ⟨h0, m, hm⟩ := h
 exact ⟨Nat.lt_of_lt_of_le h0 hb.size, m, (hb.cell (p := ⟨0, 0, none⟩) (Nat.lt_of_lt_of_le h0 hB)).trans hm⟩
theorem split_any (s : ByteArray) (hs : s.size ≤ 16384) (w : World) (hm : MaxI w) :
  Calls Tryz.prog 34 #[.string s, .string ⟨#[10]⟩] w fun e w' => ∃ (ls : List ByteArray) (A : Option Addr), e = .returned (.slice A ls.length ls.length) ∧ ls.map (fun b => b.data.toList) = linesM s.data.toList ∧
   LOk w' 1 strL ⟨ls, A, ls.length⟩ ∧ Below w.heap.size w w' := by
 obtain ⟨_, m, hm⟩ := hm
 refine (Tryz.strings_Split s ⟨#[10]⟩ m w (by omega) hm (by decide)).mono ?_
 rintro e w' ⟨rfl, rfl⟩
 have hl := Lib.splitB_all ⟨#[10]⟩ (by decide) 0 _ s rfl
 have hd : (Lib.splitB ⟨#[10]⟩ 0 (Lib.countB s ⟨#[10]⟩) s).map (fun b => b.data.toList) = linesM s.data.toList := (Lib.splitB_data _ _ _ _).trans (split_lines s.data.toList)
 have hle : (Lib.splitB ⟨#[10]⟩ 0 (Lib.countB s ⟨#[10]⟩) s).length ≤ 16385 := by
  have h1 := lines_len s.data.toList
  rw [← hd, List.length_map] at h1
  have h2 : s.data.toList.length = s.size := rfl
  omega
 rw [← hl]
 generalize Lib.splitB ⟨#[10]⟩ 0 (Lib.countB s ⟨#[10]⟩) s = ls at *
 refine ⟨ls, _, rfl, hd, ⟨by unfold maxLen; simp only; omega, .inr ⟨w.heap.size, 0, rfl, by simp, fun i hi j hj => ?_⟩⟩, below1 _ _⟩
 obtain rfl : j = 0 := by omega
 have hb := Blk.new w 9 (ls.map Value.string).toArray
 have hc := hb.cell i
 have hi' : i < ls.length := hi
 rw [Nat.zero_add, Nat.mul_one, Nat.add_zero, hc]
 simp [strL, hi']
theorem trim_any (b : ByteArray) (hb : b.size ≤ 16384) (w : World) : Calls Tryz.prog 35 #[.string b, .string ⟨#[32]⟩] w fun e w' => e = .returned (.string ⟨(Lib.trimB b.data.toList 32).toArray⟩) ∧ Below w.heap.size w w' := by
 refine (Tryz.strings_Trim_one b 32 (by decide) w (by omega)).mono ?_
 rintro e w' ⟨rfl, h⟩
 refine ⟨rfl, ?_⟩
 rcases h with rfl | rfl
 · exact Below.refl _ _
 · exact below_drew (Below.refl _ _)
theorem clip_any (n : Nat) (A : Option Addr) (c : Nat) (hn : n ≤ c) (hc : c ≤ 9223372036854775807) (h0 : A = none → n = 0 ∧ c = 0) (w : World) : Calls Tryz.prog 36 #[.slice A n c] w fun e w' => e = .returned (.slice A n n) ∧ w' = w := by
 cases A with
 | none =>
  obtain ⟨rfl, rfl⟩ := h0 rfl
  go_enter Tryz.func36, Tryz.ntmps36
  go_wp2
  go_ret
  exact ⟨rfl, rfl⟩
 | some ad =>
  have h1 : n ≤ 9223372036854775807 := by omega
  go_enter Tryz.func36, Tryz.ntmps36
  go_wp2
  go_ret
  exact ⟨rfl, rfl⟩
def Off (w : World) {α : Type} (x : L α) (b : Option Nat) : Prop := x.l = [] ∨ ∃ ad, x.A = some ad ∧ ad.block < w.heap.size ∧ b ≠ some ad.block
theorem Off.grow {w w' : World} {α : Type} {x : L α} {b b' : Option Nat} (h : Off w x b) (hs : w.heap.size ≤ w'.heap.size) (hb : b' = b ∨ ∃ k, b' = some k ∧ w.heap.size ≤ k) : Off w' x b' := by
 rcases h with h | ⟨ad, e, hl, hn⟩
 · exact .inl h
 ·
  refine .inr ⟨ad, e, Nat.lt_of_lt_of_le hl hs, ?_⟩
  rcases hb with rfl | ⟨k, rfl, hk⟩
  · exact hn
  ·
   intro q
   cases q
   omega
theorem LOk.off {w : World} {k B : Nat} {α : Type} {cells : α → List Value} {x : L α} {b : Option Nat} (h : LOk w k cells x) (ha : Abv B x.A) (hb : ∀ g, b = some g → g < B) : Off w x b := by
 rcases h.2 with h0 | ⟨g, o, e, hl, _⟩
 · exact .inl h0
 ·
  refine .inr ⟨_, e, hl, fun q => ?_⟩
  have h1 := hb _ q
  have h2 := ha _ e
  simp only at h1 h2
  omega
theorem LOk.grownO {w w' : World} {k : Nat} {row : Option Nat} {α : Type} {cells : α → List Value} {x : L α} (h : LOk w k cells x) (hg : w.grownBy w' row) (hoff : Off w x row) : LOk w' k cells x := by
 refine ⟨h.1, ?_⟩
 rcases h.2 with h0 | ⟨g, o, e, hl, hc⟩
 · exact .inl h0
 ·
  rcases hoff with h0 | ⟨ad, e2, _, hn⟩
  · exact .inl h0
  ·
   have e3 : (⟨g, o, none⟩ : Addr) = ad := by rw [e] at e2; exact Option.some.inj e2
   subst e3
   refine .inr ⟨g, o, e, Nat.lt_of_lt_of_le hl hg.size, fun i hi j hj => ?_⟩
   rw [World.cell?_of_block (hg.block g hl (fun q => hn q.symm))]
   exact hc i hi j hj
structure OpOff (w : World) (o : OpD) (b : Option Nat) : Prop where
 k : Off w o.keys b
 e : Off w o.eargs b
 c : Off w o.cargs b
theorem OpOff.grow {w w' : World} {o : OpD} {b b' : Option Nat} (h : OpOff w o b) (hs : w.heap.size ≤ w'.heap.size) (hb : b' = b ∨ ∃ k, b' = some k ∧ w.heap.size ≤ k) : OpOff w' o b' := ⟨h.k.grow hs hb, h.e.grow hs hb, h.c.grow hs hb⟩
theorem OpOk.grownO {w w' : World} {row : Option Nat} {o : OpD} (h : OpOk w o) (hg : w.grownBy w' row) (hoff : OpOff w o row) : OpOk w' o :=
 ⟨h.keys.grownO hg hoff.k, h.eargs.grownO hg hoff.e, h.cargs.grownO hg hoff.c⟩
def AccOk (w : World) (b : Option Nat) (acc : List OpD) : Prop := ∀ o ∈ acc, OpOk w o ∧ OpOff w o b
theorem AccOk.below {w w' : World} {b : Option Nat} {acc : List OpD} (h : AccOk w b acc) (hb : Below w.heap.size w w') : AccOk w' b acc := fun o ho => ⟨(h o ho).1.below hb, (h o ho).2.grow hb.size (.inl rfl)⟩
theorem acc_step {wr w1 w2 : World} {B : Nat} {t : TypeId} {k n : Nat} {v v' : Value} {xs : List Value} {acc : List OpD} {o : OpD} (hown : wr.ownsRow B t k v n xs) (ha : AccOk wr v.ownBlock acc) (hb : Below wr.heap.size wr w1)
  (hg : w1.grownBy w2 v.ownBlock) (hat : v'.ownBlock = v.ownBlock ∨ v'.ownBlock = some w1.heap.size) (ho : OpLies w1 o wr.heap.size) : AccOk w2 v'.ownBlock (acc ++ [o]) := by
 have hat' : v'.ownBlock = v.ownBlock ∨ ∃ k, v'.ownBlock = some k ∧ w1.heap.size ≤ k := by
  rcases hat with h | h
  · exact .inl h
  · exact .inr ⟨_, h, Nat.le_refl _⟩
 have hl := fun g h => (own_ltO hown g h).2
 intro x hx
 rcases List.mem_append.1 hx with hx | hx
 ·
  have h1 := (ha.below hb) x hx
  exact ⟨h1.1.grownO hg h1.2, h1.2.grow hg.size hat'⟩
 ·
  rw [List.mem_singleton] at hx
  subst hx
  have h2 : OpOff w1 x v.ownBlock := ⟨ho.ok.keys.off ho.k hl, ho.ok.eargs.off ho.e hl, ho.ok.cargs.off ho.c hl⟩
  exact ⟨ho.ok.grownO hg h2, h2.grow hg.size hat'⟩
theorem script_step (p : ProgD) (ls : List ByteArray) (i : Nat) (hi : i < ls.length) (out : List OpP) :
  scriptG p ((ls.drop i).map fun b => b.data.toList) i out = if blankM ls[i].data.toList = true then scriptG p ((ls.drop (i + 1)).map fun b => b.data.toList) (i + 1) out
   else if (readM p ls[i].data.toList).2 ≠ 0 then ([], i + 1, (readM p ls[i].data.toList).2) else scriptG p ((ls.drop (i + 1)).map fun b => b.data.toList) (i + 1) (out ++ [(readM p ls[i].data.toList).1]) := by
 rw [List.drop_eq_getElem_cons hi, List.map_cons, scriptG]
theorem script_end (p : ProgD) (ls : List ByteArray) (out : List OpP) : scriptG p ((ls.drop ls.length).map fun b => b.data.toList) ls.length out = (out, 0, 0) := by
 rw [List.drop_length]; rfl
def ScriptEnd (w : World) (R : List OpP × Nat × Int) (e : Ending) (w' : World) : Prop := ∃ l : L OpD, e = .returned (.tuple #[.slice l.A l.l.length l.c, .int .i64 R.2.1, .int .i64 R.2.2]) ∧ l.l.map OpD.bare = R.1 ∧
 LOk w' 9 opL l ∧ (∀ o ∈ l.l, OpOk w' o) ∧ l.c = l.l.length ∧ Below w.heap.size w w'
theorem script_bad {w w' : World} {R : List OpP × Nat × Int} {n : Int} {m : Nat} {e : Int} (hR : R = ([], m, e)) (hn : n = m) (hb : Below w.heap.size w w') : ScriptEnd w R (.returned (.tuple #[.slice none 0 0, .int .i64 n, .int .i64 e])) w' := by
 subst hR hn
 exact ⟨⟨[], none, 0⟩, rfl, rfl, nilLO _ _ _, (fun o ho => by cases ho), rfl, hb⟩
theorem script_good {w w' : World} {R : List OpP × Nat × Int} {acc : List OpD} {A : Option Addr} {c B : Nat} (hR : R = (acc.map OpD.bare, 0, 0)) (hown : w'.ownsRow B 39 9 (.slice A acc.length c) acc.length (acc.flatMap opL))
  {b : Option Nat} (ha : AccOk w' b acc) (hb : Below w.heap.size w w') : ScriptEnd w R (.returned (.tuple #[.slice A acc.length acc.length, .int .i64 0, .int .i64 0])) w' := by
 subst hR
 obtain ⟨A', c', e3, _, h2, _, h4⟩ := own_list (cells := opL) (fun _ => rfl) hown
 rw [Value.slice.injEq] at e3
 obtain ⟨rfl, _, rfl⟩ := e3
 exact ⟨⟨acc, A, acc.length⟩, rfl, rfl, ⟨h2.1, h2.2⟩, fun o ho => (ha o ho).1, rfl, hb⟩
theorem own_caps {w : World} {B : Nat} {t : TypeId} {k n c : Nat} {A : Option Addr} {xs : List Value} (h : w.ownsRow B t k (.slice A n c) n xs) : n ≤ c ∧ c ≤ 9223372036854775807 ∧ (A = none → n = 0 ∧ c = 0) := by
 rcases h.2 with ⟨hv, h0⟩ | ⟨g, cap, cur, hv, hb, hg, hle, hcm, hcs, htk⟩
 ·
  rw [Value.slice.injEq] at hv
  obtain ⟨rfl, rfl, rfl⟩ := hv
  exact ⟨Nat.le_refl _, by omega, fun _ => ⟨rfl, rfl⟩⟩
 ·
  rw [Value.slice.injEq] at hv
  obtain ⟨rfl, _, rfl⟩ := hv
  exact ⟨hle, by unfold maxLen at hcm; omega, fun q => by cases q⟩
theorem new_cellsO (w : World) (cs : List Value) (t : TypeId) : ∀ j v, cs[j]? = some v → (w.alloc (.cells cs.toArray t)).cell? ((⟨w.heap.size, 0, none⟩ : Addr).add j) = some v := by
 intro j v hj
 have hb := Blk.new w t cs.toArray
 have hc := hb.cell j
 rw [Addr.add_lit, Nat.zero_add, hc]
 simpa using hj
theorem oscript_any (p : ProgD) (s : ByteArray) (w : World) (G : ProgG w p) (ht : Tab w) (hm : MaxI w) :
  Calls Tryz.prog 15 #[.agg (progCells p), .string s] w (ScriptEnd w (scriptM p s.data.toList)) := by
 obtain ⟨W, hW, hw, hsz, b0⟩ : ∃ W, W = w.alloc (.cells (progCells p) 31) ∧ Below w.heap.size w W ∧ W.heap.size = w.heap.size + 1 ∧ Blk W w.heap.size 31 (progCells p) := ⟨_, rfl, below1 _ _, by simp, Blk.new _ _ _⟩
 have HW := hi_ hw
 have HSz := hi_ hsz
 have HPB := hi_ b0
 have HG := hi_ (G.below hw)
 have HT := hi_ (ht.base hw)
 have HM := hi_ (hm.below hw (Nat.le_refl _))
 have HCk := hi_ (check_any p W HG.out.ok G.cap G.nodes)
 have HSM := hi_ (scriptM.eq_1 p s.data.toList)
 have HLS : Hid (s.data.toList.length = s.size) := hi_ rfl
 have HDZ := hi_ (fun (hz : (diagM p).code = 0) => diagM_ok hz)
 clear hw hsz b0 G ht hm
 simp only [diag_val] at HCk
 generalize scriptM p s.data.toList = R at *
 generalize diagM p = d at *
 obtain ⟨dc, dp, di, ds⟩ := d
 simp only at HCk HSM HDZ
 have hp3 : ∀ i, W.cell? ⟨w.heap.size, i, none⟩ = (progCells p)[i]? := fun i => HPB.out.cell i
 by_cases hlong : 16384 < s.size
 ·
  have HRR := tr_ HSM (if_pos (by rw [HLS.out]; exact hlong))
  clear HSM HDZ HCk hp3
  go_enter Tryz.func15, Tryz.ntmps15
  go_upto_region 1 with fail
  rw [← hW]
  clear hW
  go_wp2
  go_ret3
  exact script_bad HRR.out rfl HW.out
 have HRS := tr_ HSM (if_neg (by rw [HLS.out]; exact hlong))
 clear HSM
 go_enter Tryz.func15, Tryz.ntmps15
 go_upto_region 1 with fail
 rw [← hW]
 clear hW
 go_wp2_with fail
 refine HCk.out.mono ?_
 rintro e1 w1 ⟨rfl, hb1⟩
 obtain ⟨X, hX⟩ : ∃ X, X = w1.alloc (.cells #[.int .i64 dc, .int .i64 dp, .int .i64 di, .int .i64 ds] 70) := ⟨_, rfl⟩
 have hbX : Below W.heap.size W X := by rw [hX]; exact below_alloc hb1 _
 have HBX := hi_ hbX
 have HXB : Hid (Blk X w1.heap.size 70 #[.int .i64 dc, .int .i64 dp, .int .i64 di, .int .i64 ds]) := hi_ (by rw [hX]; exact Blk.new _ _ _)
 have HPX := hi_ (HPB.out.below hbX HPB.out.lt)
 have HMX := hi_ (HM.out.below hbX (Nat.le_refl _))
 clear hp3 HCk hb1 hbX
 go_upto_region 4 with fail
 rw [← hX]
 clear hX
 have hd : X.cell? ⟨w1.heap.size, 0, none⟩ = some (.int .i64 dc) := HXB.out.cell 0
 by_cases hz : dc = 0
 case neg =>
  have HRR := tr_ HRS (if_pos hz)
  have hz' : (dc != 0) = true := bne_iff_ne.2 hz
  clear HRS HDZ hz
  go_upto_region 5 with fail
  go_quiet (fail)
  go_wp2
  go_ret3
  exact script_bad HRR.out rfl (below_drewN (below_step HW.out HBX.out) _)
 have HR0 := tr_ HRS (if_neg (fun h => h hz))
 have HD := hi_ (HDZ.out hz)
 subst hz
 clear HRS HDZ
 have hshort : s.size ≤ 16384 := by omega
 go_wp2_with fail
 refine (split_any s hshort X HMX.out).mono ?_
 rintro e2 Z ⟨ls, A0, rfl, hmap, hL, hbZ⟩
 have HBZ := hi_ (below_step HBX.out hbZ)
 have HPZ := hi_ (HPX.out.below hbZ HPX.out.lt)
 have HLZ := hi_ hL
 have HN : Hid (ls.length ≤ 16385) := hi_ (by
  have h1 := lines_len s.data.toList
  rw [← hmap, List.length_map, HLS.out] at h1
  omega)
 have HSZ : Hid (∀ b ∈ ls, b.size ≤ 16384) := hi_ (fun b hb => by
  have h1 := lines_le s.data.toList b.data.toList (by rw [← hmap]; exact List.mem_map.2 ⟨b, hb, rfl⟩)
  rw [HLS.out] at h1
  exact Nat.le_trans h1 hshort)
 have HR : Hid (scriptG p ((ls.drop 0).map fun b => b.data.toList) 0 [] = R) := hi_ (by rw [HR0.out, ← hmap]; rfl)
 have HPA := hi_ (fun (b : ByteArray) (hb : b.size ≤ 16384) u (hu : Below W.heap.size W u) => oparse_any p b u (HG.out.below hu) HD.out (Nat.le_trans hb (by unfold maxLen; decide)) (HT.out.base hu))
 have HTr := hi_ (fun (b : ByteArray) (hb : b.size ≤ 16384) u => trim_any b hb u)
 have HTB := hi_ trim_blank
 clear hmap hL hbZ HR0 hd HXB HPX HPB HMX HBX
 obtain ⟨i0, hi, hz0, hz1, hz2⟩ := info_parts (show (Tryz.prog.info? 39).map (fun i => (i.zero, i.size, i.bytes)) = some (some (.agg #[.int .i64 0, .int .i64 0, .int .i64 0, .slice none 0 0, .int .i64 0, .int .i64 0, .slice none 0 0, .int .i64 0, .slice none 0 0]), 9, 120) by kernel_rfl)
 have hnl : ls.length ≤ 16385 := HN.out
 go_wp2
 go_loopw [4, 8, 9, 10, 11, 25] (fun lv _ _ _ _ iv wr => ∃ (i : Nat) (acc : List OpD) (A : Option Addr) (c : Nat), i ≤ ls.length ∧ iv = .int .i64 i ∧ lv = .slice A acc.length c ∧ acc.length ≤ i ∧ Hid (Below Z.heap.size Z wr) ∧
   Hid (wr.ownsRow Z.heap.size 39 9 (.slice A acc.length c) acc.length (acc.flatMap opL)) ∧ Hid (AccOk wr (Value.slice A acc.length c).ownBlock acc) ∧ Hid (scriptG p ((ls.drop i).map fun b => b.data.toList) i (acc.map OpD.bare) = R))
  (fun _ _ _ _ _ i _ => ls.length - (intOf i).toNat)
 case atStart => exact ⟨0, [], none, 0, Nat.zero_le _, rfl, rfl, Nat.le_refl _, hi_ (Below.refl _ _), hi_ (World.ownsRow_nil _ _ _ _), hi_ (fun o ho => by cases ho), HR⟩
 case round =>
  obtain ⟨i, acc, A, c, hile, rfl, rfl, hacc, HBr, HO, HA, HS⟩ := hrel
  by_cases hlt : i < ls.length
  ·
   obtain ⟨g, of, rfl, d0⟩ := strL_at (HLZ.out.below HBr.out (Nat.le_refl _)) hlt
   simp only at d0
   have HST := hi_ (script_step p ls i hlt (acc.map OpD.bare))
   have HSb : Hid (ls[i].size ≤ 16384) := hi_ (HSZ.out _ (List.getElem_mem hlt))
   have HWr := hi_ (below_step HBZ.out HBr.out)
   generalize ls[i] = b at *
   have HTq := hi_ (HTB.out b.data.toList)
   go_wp2_with fail
   refine (HTr.out b HSb.out wr).mono ?_
   rintro e3 w3 ⟨rfl, hb3⟩
   have HB3 := hi_ hb3
   have HB3W := hi_ (below_step HWr.out hb3)
   have HP3 := hi_ ((HPZ.out.below HBr.out HPZ.out.lt).below hb3 (Nat.lt_of_lt_of_le HPZ.out.lt HBr.out.size))
   have HO3 := hi_ (ownsRow_below HO.out hb3)
   have HA3 := hi_ (HA.out.below hb3)
   have HZ3 := hi_ (HBr.out.trans (hb3.mono HBr.out.size))
   clear hb3 d0 HO HA
   generalize Lib.trimB b.data.toList 32 = tb at *
   cases hbl : blankM b.data.toList with
   | true =>
    have HS2 := hi_ (HST.out.symm.trans HS.out)
    rw [hbl, if_pos rfl] at HS2
    have htb : tb = [] := HTq.out.2 hbl
    subst htb
    clear HTq HST HS hbl
    go_wp2
    go_roundw
    case rel => exact ⟨i + 1, acc, A, c, by omega, by go_num, rfl, by omega, HZ3, HO3, HA3, HS2⟩
    case measure => simp [intOf]; omega
   | false =>
    have htb : tb ≠ [] := fun h => by have := HTq.out.1 h; rw [hbl] at this; cases this
    obtain ⟨c0, r0, rfl⟩ : ∃ c0 r0, tb = c0 :: r0 := by
     cases tb with
     | nil => exact absurd rfl htb
     | cons a l => exact ⟨a, l, rfl⟩
    have HS2 := hi_ (HST.out.symm.trans HS.out)
    rw [hbl, if_neg (by decide)] at HS2
    clear HTq HST HS hbl htb
    have hp3 : ∀ i, w3.cell? ⟨w.heap.size, i, none⟩ = (progCells p)[i]? := fun i => HP3.out.cell i
    have HP := hi_ (HPA.out b HSb.out w3 HB3W.out)
    generalize readM p b.data.toList = R2 at *
    obtain ⟨R2o, z⟩ := R2
    simp only at HS2
    go_wp2_with fail
    refine HP.out.mono ?_
    rintro e4 w4 ⟨o, rfl, hob, hL, hb4⟩
    obtain ⟨X4, hX4⟩ : ∃ X4, X4 = w4.alloc (.cells (opCells o) 39) := ⟨_, rfl⟩
    have hbx : Below w3.heap.size w3 X4 := by rw [hX4]; exact below_alloc hb4 _
    have HB4 := hi_ hbx
    have HOB : Hid (o.bare = R2o) := hi_ hob
    have HXO : Hid (Blk X4 w4.heap.size 39 (opCells o)) := hi_ (by rw [hX4]; exact Blk.new _ _ _)
    have HL4 : Hid (OpLies X4 o w3.heap.size) := hi_ (by rw [hX4]; exact hL.below (below1 _ _))
    clear hob hL hb4 HP hp3 hbx
    simp only
    go_upto_region 11 with fail
    rw [← hX4]
    clear hX4
    by_cases hz : z = 0
    ·
     have HS3 : Hid (scriptG p ((ls.drop (i + 1)).map fun b => b.data.toList) (i + 1) ((acc ++ [o]).map OpD.bare) = R) := hi_ (by rw [← HS2.out, if_neg (fun h => h hz), List.map_append, List.map_singleton, HOB.out])
     subst hz
     clear HS2
     have HO4 := ownsRow_below HO3.out HB4.out
     have hsz4 : Z.heap.size ≤ X4.heap.size := Nat.le_trans HZ3.out.size HB4.out.size
     have ho3 : ∀ i, X4.cell? ⟨w4.heap.size, i, none⟩ = (opCells o)[i]? := fun i => HXO.out.cell i
     go_wp2_with (first
      | (at_builtin; refine wpList_append_own_at _ rfl _ _ 51 rfl Z.heap.size 39 i0 _ 9 120 Tryz.underlying51 hi hz0 hz1 hz2 rfl (by decide) _ _ _ rfl (HO4.alloc _) ⟨X4.heap.size, 0, none⟩ 1 1 (opL o) rfl rfl ?c1 ?c2 ?c3 ?c4 ?c5 ?_)
      | fail)
     case c1 => exact new_cellsO _ _ _
     case c2 => intro u hu; simp only [opL, List.mem_cons, List.not_mem_nil, or_false] at hu; rcases hu with rfl | rfl | rfl | rfl | rfl | rfl | rfl | rfl | rfl <;> rfl
     case c3 => unfold maxLen; omega
     case c4 => omega
     case c5 => simp; omega
     intro v' w5 hown5 hgrow _ hat
     have HA5 := hi_ (acc_step HO3.out HA3.out (HB4.out.trans ((below1 X4 _).mono HB4.out.size)) hgrow (by simpa using hat) (HL4.out.below (below1 _ _)))
     have HZ5 : Hid (Below Z.heap.size Z w5) := hi_ (((HZ3.out.trans (HB4.out.mono HZ3.out.size)).trans ((below1 X4 _).mono hsz4)).trans (grown_below (HO4.alloc _) hgrow (by simp; omega)))
     obtain ⟨A', c', rfl⟩ : ∃ A' c', v' = .slice A' (acc.length + 1) c' := by
      rcases hown5.2 with ⟨hv, h0⟩ | ⟨g', cap, cur, hv, _, _, _⟩
      · omega
      · exact ⟨_, _, hv⟩
     have HO5 : Hid (w5.ownsRow Z.heap.size 39 9 (.slice A' (acc ++ [o]).length c') (acc ++ [o]).length ((acc ++ [o]).flatMap opL)) := hi_ (by
      rw [List.flatMap_append, List.length_append]
      simpa using hown5)
     have HLn : Hid ((acc ++ [o]).length = acc.length + 1) := hi_ (by simp)
     rw [← HLn.out]
     rw [← HLn.out] at HA5
     have hln : (acc ++ [o]).length ≤ i + 1 := by rw [HLn.out]; omega
     generalize acc ++ [o] = acc2 at *
     clear hgrow hat hown5 HO4 HLn hsz4 ho3
     go_wp2
     go_roundw
     case rel => exact ⟨i + 1, acc2, A', c', by omega, by go_num, rfl, hln, HZ5, HO5, HA5, HS3⟩
     case measure => simp [intOf]; omega
    ·
     have HRR := hi_ (HS2.out.symm.trans (if_pos hz))
     have hz' : (z != 0) = true := bne_iff_ne.2 hz
     clear HS2 hz
     go_wp2
     go_ret3
     exact script_bad HRR.out (by omega) (below_step HW.out (below_step HB3W.out HB4.out))
  ·
   obtain rfl : i = ls.length := by omega
   have HRR : Hid (R = (acc.map OpD.bare, 0, 0)) := hi_ (HS.out.symm.trans (script_end p ls _))
   have HC := hi_ (own_caps HO.out)
   clear HS
   go_wp2_with fail
   refine (clip_any acc.length A c HC.out.1 HC.out.2.1 HC.out.2.2 wr).mono ?_
   rintro e5 w5 ⟨rfl, rfl⟩
   go_wp2
   go_ret3
   exact script_good HRR.out HO.out HA.out (below_step HW.out (below_step HBZ.out HBr.out))
def nilO {α : Type} : L α := ⟨[], none, 0⟩
theorem nilO_ok {α : Type} (w : World) (k : Nat) (cells : α → List Value) : LOk w k cells nilO := ⟨Nat.zero_le _, .inl rfl⟩
structure SampA where
 m : Nat
 f : Nat
 a : Nat
 k : Nat
 i : Nat
 t : Nat
 s : Nat
 c : Nat
def metaO : List FieldD := [⟨⟨#[105, 110]⟩, 8⟩, ⟨⟨#[111, 117, 116]⟩, 8⟩, ⟨⟨#[100, 114, 111, 112]⟩, 1⟩]
def parO : List FieldD := [⟨⟨#[112, 111, 114, 116]⟩, 8⟩, ⟨⟨#[108, 97, 98, 101, 108]⟩, 8⟩]
def actsO (g : SampA) : List ActD := [⟨⟨#[102, 111, 114, 119, 97, 114, 100]⟩, ⟨parO, some ⟨g.f, 0, none⟩, 2⟩, nilO⟩, ⟨⟨#[100, 114, 111, 112]⟩, nilO, nilO⟩]
def keysO : List KeyD := [⟨-1, 0, 3⟩, ⟨-1, 1, 3⟩]
def tabO (g : SampA) : TabD := ⟨⟨#[112, 97, 116, 104]⟩, ⟨keysO, some ⟨g.k, 0, none⟩, 2⟩, ⟨[0, 1], some ⟨g.i, 0, none⟩, 2⟩, 1, nilO, 9⟩
def stO : StateD := ⟨⟨#[115]⟩, nilO, false, 0, 0, nilO, -1⟩
def ctlO : CtlD := .mk 1 0 nilO [] [] none none 0 0
def sampP (g : SampA) : ProgD := ⟨⟨#[112]⟩, nilO, ⟨metaO, some ⟨g.m, 0, none⟩, 3⟩, nilO, ⟨actsO g, some ⟨g.a, 0, none⟩, 2⟩, ⟨[tabO g], some ⟨g.t, 0, none⟩, 1⟩, ⟨[stO], some ⟨g.s, 0, none⟩, 1⟩, ⟨[ctlO], some ⟨g.c, 0, none⟩, 1⟩, nilO⟩
def parCs : Array Value := #[.string ⟨#[112, 111, 114, 116]⟩, .int .i64 8, .string ⟨#[108, 97, 98, 101, 108]⟩, .int .i64 8]
def metaOs : Array Value := #[.string ⟨#[105, 110]⟩, .int .i64 8, .string ⟨#[111, 117, 116]⟩, .int .i64 8, .string ⟨#[100, 114, 111, 112]⟩, .int .i64 1]
def actOs (g : SampA) : Array Value := #[.string ⟨#[102, 111, 114, 119, 97, 114, 100]⟩, .slice (some ⟨g.f, 0, none⟩) 2 2, .slice none 0 0, .string ⟨#[100, 114, 111, 112]⟩, .slice none 0 0, .slice none 0 0]
def keyOs : Array Value := #[.int .i64 (-1), .int .i64 0, .int .i64 3, .int .i64 (-1), .int .i64 1, .int .i64 3]
def tabOs (g : SampA) : Array Value := #[.string ⟨#[112, 97, 116, 104]⟩, .slice (some ⟨g.k, 0, none⟩) 2 2, .slice (some ⟨g.i, 0, none⟩) 2 2, .int .i64 1, .slice none 0 0, .int .i64 9]
def stOs : Array Value := #[.string ⟨#[115]⟩, .slice none 0 0, .bool false, .int .i64 0, .int .i64 0, .slice none 0 0, .int .i64 (-1)]
def ctlOs : Array Value := #[.int .i64 1, .int .i64 0, .slice none 0 0, .slice none 0 0, .slice none 0 0]
structure SampAt (w : World) (g : SampA) : Prop where
 m : Blk w g.m 104 metaOs
 f : Blk w g.f 104 parCs
 a : Blk w g.a 93 (actOs g)
 k : Blk w g.k 106 keyOs
 i : Blk w g.i 3 #[.int .i64 0, .int .i64 1]
 t : Blk w g.t 59 (tabOs g)
 s : Blk w g.s 64 stOs
 c : Blk w g.c 102 ctlOs
theorem short_name (n : Nat) (h : n ≤ 16) : n ≤ maxLen := by unfold maxLen; omega
theorem samp_ok {w : World} {g : SampA} (b : SampAt w g) : ProgOk w (sampP g) where
 name := short_name 1 (by decide)
 headers := nilO_ok _ _ _
 hdr := fun _ h => by cases h
 metadata := by
  refine ⟨short_name 3 (by decide), .inr ⟨_, 0, rfl, b.m.lt, fun i hi j hj => ?_⟩⟩
  have hi' : i < 3 := hi
  rw [b.m.cell]
  match i, hi', j, hj with
  | 0, _, 0, _ => rfl
  | 0, _, 1, _ => rfl
  | 1, _, 0, _ => rfl
  | 1, _, 1, _ => rfl
  | 2, _, 0, _ => rfl
  | 2, _, 1, _ => rfl
 mnames := fun f hf => by
  simp only [sampP, metaO, List.mem_cons, List.not_mem_nil, or_false] at hf
  rcases hf with rfl | rfl | rfl
  · exact short_name 2 (by decide)
  · exact short_name 3 (by decide)
  · exact short_name 4 (by decide)
 registers := nilO_ok _ _ _
 rnames := fun _ h => by cases h
 actions := by
  refine ⟨short_name 2 (by decide), .inr ⟨_, 0, rfl, b.a.lt, fun i hi j hj => ?_⟩⟩
  have hi' : i < 2 := hi
  rw [b.a.cell]
  match i, hi', j, hj with
  | 0, _, 0, _ => rfl
  | 0, _, 1, _ => rfl
  | 0, _, 2, _ => rfl
  | 1, _, 0, _ => rfl
  | 1, _, 1, _ => rfl
  | 1, _, 2, _ => rfl
 act := fun a ha => by
  simp only [sampP, actsO, List.mem_cons, List.not_mem_nil, or_false] at ha
  rcases ha with rfl | rfl
  ·
   refine ⟨short_name 7 (by decide), ?_, fun f hf => ?_, nilO_ok _ _ _, fun _ h => (by cases h)⟩
   ·
    refine ⟨short_name 2 (by decide), .inr ⟨_, 0, rfl, b.f.lt, fun i hi j hj => ?_⟩⟩
    have hi' : i < 2 := hi
    rw [b.f.cell]
    match i, hi', j, hj with
    | 0, _, 0, _ => rfl
    | 0, _, 1, _ => rfl
    | 1, _, 0, _ => rfl
    | 1, _, 1, _ => rfl
   ·
    simp only [parO, List.mem_cons, List.not_mem_nil, or_false] at hf
    rcases hf with rfl | rfl
    · exact short_name 4 (by decide)
    · exact short_name 5 (by decide)
  · exact ⟨short_name 4 (by decide), nilO_ok _ _ _, fun _ h => (by cases h), nilO_ok _ _ _, fun _ h => (by cases h)⟩
 tables := by
  refine ⟨short_name 1 (by decide), .inr ⟨_, 0, rfl, b.t.lt, fun i hi j hj => ?_⟩⟩
  have hi' : i < 1 := hi
  rw [b.t.cell]
  match i, hi', j, hj with
  | 0, _, 0, _ => rfl
  | 0, _, 1, _ => rfl
  | 0, _, 2, _ => rfl
  | 0, _, 3, _ => rfl
  | 0, _, 4, _ => rfl
  | 0, _, 5, _ => rfl
 tab := fun t ht => by
  simp only [sampP, List.mem_cons, List.not_mem_nil, or_false] at ht
  subst ht
  refine ⟨short_name 4 (by decide), ?_, ?_, nilO_ok _ _ _⟩
  ·
   refine ⟨short_name 2 (by decide), .inr ⟨_, 0, rfl, b.k.lt, fun i hi j hj => ?_⟩⟩
   have hi' : i < 2 := hi
   rw [b.k.cell]
   match i, hi', j, hj with
   | 0, _, 0, _ => rfl
   | 0, _, 1, _ => rfl
   | 0, _, 2, _ => rfl
   | 1, _, 0, _ => rfl
   | 1, _, 1, _ => rfl
   | 1, _, 2, _ => rfl
  ·
   refine ⟨short_name 2 (by decide), .inr ⟨_, 0, rfl, b.i.lt, fun i hi j hj => ?_⟩⟩
   have hi' : i < 2 := hi
   rw [b.i.cell]
   match i, hi', j, hj with
   | 0, _, 0, _ => rfl
   | 1, _, 0, _ => rfl
 states := by
  refine ⟨short_name 1 (by decide), .inr ⟨_, 0, rfl, b.s.lt, fun i hi j hj => ?_⟩⟩
  have hi' : i < 1 := hi
  rw [b.s.cell]
  match i, hi', j, hj with
  | 0, _, 0, _ => rfl
  | 0, _, 1, _ => rfl
  | 0, _, 2, _ => rfl
  | 0, _, 3, _ => rfl
  | 0, _, 4, _ => rfl
  | 0, _, 5, _ => rfl
  | 0, _, 6, _ => rfl
 state := fun s hs => by
  simp only [sampP, List.mem_cons, List.not_mem_nil, or_false] at hs
  subst hs
  exact ⟨short_name 1 (by decide), nilO_ok _ _ _, nilO_ok _ _ _⟩
 control := by
  refine ⟨short_name 1 (by decide), .inr ⟨_, 0, rfl, b.c.lt, fun i hi j hj => ?_⟩⟩
  have hi' : i < 1 := hi
  rw [b.c.cell]
  match i, hi', j, hj with
  | 0, _, 0, _ => rfl
  | 0, _, 1, _ => rfl
  | 0, _, 2, _ => rfl
  | 0, _, 3, _ => rfl
  | 0, _, 4, _ => rfl
 ctl := by
  show CtlsOk w [ctlO]
  rw [CtlsOk]
  refine ⟨?_, by rw [CtlsOk]; trivial⟩
  rw [ctlO, CtlOk]
  exact ⟨nilO_ok _ _ _, nilO_ok _ _ _, nilO_ok _ _ _, by rw [CtlsOk]; trivial, by rw [CtlsOk]; trivial⟩
 deparser := nilO_ok _ _ _
theorem samp_cap (g : SampA) : ProgCap (sampP g) where
 fields := fun _ h => by cases h
 params := fun a ha => by
  simp only [sampP, actsO, List.mem_cons, List.not_mem_nil, or_false] at ha
  rcases ha with rfl | rfl <;> exact Nat.le_refl _
 dep := Nat.le_refl _
 dflt := fun t ht => by
  simp only [sampP, List.mem_cons, List.not_mem_nil, or_false] at ht
  subst ht
  rfl
 args := fun t ht v hv => by
  simp only [sampP, List.mem_cons, List.not_mem_nil, or_false] at ht
  subst ht
  cases hv
 cases := fun s hs c hc => by
  simp only [sampP, List.mem_cons, List.not_mem_nil, or_false] at hs
  subst hs
  cases hc
theorem samp_nodes (g : SampA) : (presM (sampP g).control.l).length ≤ 90000 := by
 rw [show (presM (sampP g).control.l).length = 1 from by kernel_rfl]; decide
theorem samp_diag (g : SampA) : (diagM (sampP g)).code = 0 := by kernel_rfl
def o7 : OpP := ⟨3, 0, 7, [], 0, 0, [], 0, []⟩
def tDel7 : List UInt8 := [100, 101, 108, 101, 116, 101, 32, 112, 97, 116, 104, 32, 55]
theorem samp_1 (g : SampA) : fmtOp (sampP g) o7 = (tDel7, 0) := by kernel_rfl
def tIns : List UInt8 := [105, 110, 115, 101, 114, 116, 32, 112, 97, 116, 104, 32, 53, 47, 50, 53, 53, 32, 48, 47, 48, 32, 112, 114, 105, 111, 114, 105, 116, 121, 32, 51, 32, 45, 62, 32, 102, 111, 114, 119, 97, 114, 100, 40, 49, 44, 32, 50, 41]
theorem samp_2 (g : SampA) : readM (sampP g) tIns = (⟨1, 0, 0, [⟨5, 255⟩, ⟨0, 0⟩], 3, 0, [1, 2], 0, []⟩, 0) := by kernel_rfl
def tA : List UInt8 := [100, 101, 108, 101, 116, 101, 32, 32, 112, 97, 116, 104, 32, 55]
def tB : List UInt8 := [100, 101, 108, 101, 116, 101, 32, 112, 97, 116, 104]
def tC : List UInt8 := [100, 101, 108, 101, 116, 101, 32, 111, 116, 104, 101, 114, 32, 55]
def tD : List UInt8 := [100, 101, 108, 101, 116, 101, 32, 112, 97, 116, 104, 32, 48]
theorem samp_a (g : SampA) : (readM (sampP g) tA).2 = 23 := by kernel_rfl
theorem samp_b (g : SampA) : (readM (sampP g) tB).2 = 5 := by kernel_rfl
theorem samp_c (g : SampA) : (readM (sampP g) tC).2 = 8 := by kernel_rfl
theorem samp_d (g : SampA) : (readM (sampP g) tD).2 = 9 := by kernel_rfl
def tScr : List UInt8 := tDel7 ++ [10, 10] ++ [100, 101, 102, 97, 117, 108, 116, 32, 112, 97, 116, 104, 32, 45, 62, 32, 100, 114, 111, 112, 40, 41]
theorem samp_s (g : SampA) : scriptM (sampP g) tScr = ([o7, ⟨4, 0, 0, [], 0, 0, [], 1, []⟩], 0, 0) := by kernel_rfl
theorem blk_atO {w : World} {g : Nat} (h : w.heap.size = g) (t : TypeId) (cs : Array Value) : Blk (w.alloc (.cells cs t)) g t cs := h ▸ Blk.new w t cs
def sampG (n : Nat) : SampA := ⟨n, n + 1, n + 1 + 1, n + 1 + 1 + 1, n + 1 + 1 + 1 + 1, n + 1 + 1 + 1 + 1 + 1, n + 1 + 1 + 1 + 1 + 1 + 1, n + 1 + 1 + 1 + 1 + 1 + 1 + 1⟩
theorem sample_any (w : World) :
  Calls Tryz.prog 20 #[] w fun e w' => ∃ g, e = .returned (.agg (progCells (sampP g))) ∧ SampAt w' g ∧ Below w.heap.size w w' := by
 go_enter Tryz.func20, Tryz.ntmps20
 go_wp2
 refine bodyPost_ret (v := .agg (progCells (sampP (sampG (w.heap.size + 1))))) ?_ rfl ?_
 · exact results_cell_row (fn := Tryz.f20) (p := 0) (ty := 31) rfl _ _ w.heap.size 31 (progCells (sampP (sampG (w.heap.size + 1)))) (0, 0) _ rfl (((((((((Blk.new _ _ _).alloc _).alloc _).alloc _).alloc _).alloc _).alloc _).alloc _).alloc _) Tryz.underlying31 rfl (by kernel_rfl)
 ·
  refine ⟨_, rfl, ⟨?_, ?_, ?_, ?_, ?_, ?_, ?_, ?_⟩, ?_⟩
  · exact (((((((blk_atO (by simp [sampG]) _ _).alloc _).alloc _).alloc _).alloc _).alloc _).alloc _).alloc _
  · exact ((((((blk_atO (by simp [sampG]) _ _).alloc _).alloc _).alloc _).alloc _).alloc _).alloc _
  · exact (((((blk_atO (by simp [sampG]) _ _).alloc _).alloc _).alloc _).alloc _).alloc _
  · exact ((((blk_atO (by simp [sampG]) _ _).alloc _).alloc _).alloc _).alloc _
  · exact (((blk_atO (by simp [sampG]) _ _).alloc _).alloc _).alloc _
  · exact ((blk_atO (by simp [sampG]) _ _).alloc _).alloc _
  · exact (blk_atO (by simp [sampG]) _ _).alloc _
  · exact blk_atO (by simp [sampG]) _ _
  · exact below_alloc (below_alloc (below_alloc (below_alloc (below_alloc (below_alloc (below_alloc (below_alloc (below1 _ _) _) _) _) _) _) _) _) _
structure SampF (p : ProgD) : Prop where
 f : formatM p o7 = (tDel7, 0)
 i : parseOpM p tIns = (⟨1, 0, 0, [⟨5, 255⟩, ⟨0, 0⟩], 3, 0, [1, 2], 0, []⟩, 0)
 a : (parseOpM p tA).2 = 23
 b : (parseOpM p tB).2 = 5
 c : (parseOpM p tC).2 = 8
 d : (parseOpM p tD).2 = 9
 s : scriptM p tScr = ([o7, ⟨4, 0, 0, [], 0, 0, [], 1, []⟩], 0, 0)
theorem sampF (g : SampA) : SampF (sampP g) where
 f := by rw [formatM, if_neg (fun h => h (samp_diag g)), samp_1]
 i := by rw [parseOpM, if_neg (fun h => h (samp_diag g)), samp_2]
 a := by rw [parseOpM, if_neg (fun h => h (samp_diag g)), samp_a]
 b := by rw [parseOpM, if_neg (fun h => h (samp_diag g)), samp_b]
 c := by rw [parseOpM, if_neg (fun h => h (samp_diag g)), samp_c]
 d := by rw [parseOpM, if_neg (fun h => h (samp_diag g)), samp_d]
 s := samp_s g
theorem samp_good {w : World} {g : SampA} (b : SampAt w g) : ProgG w (sampP g) := ⟨samp_ok b, samp_cap g, samp_nodes g, by rw [show (sampP g).actions.l.length = 2 from rfl]; decide, by rw [show (sampP g).tables.l.length = 1 from rfl]; decide⟩
def o7D : OpD := ⟨3, 0, 7, ⟨[], none, 0⟩, 0, 0, ⟨[], none, 0⟩, 0, ⟨[], none, 0⟩⟩
theorem o7_fine : OpFine o7D.bare := ⟨by rfl, by rfl, by rfl, (fun k hk => by cases hk), by rfl, by rfl, (fun k hk => by cases hk), by rfl, (fun k hk => by cases hk)⟩
theorem o7_ok (w : World) : OpOk w o7D := ⟨nilLO _ _ _, nilLO _ _ _, nilLO _ _ _⟩
theorem two_keys {w : World} {o : OpD} (h : LOk w 2 KmD.cells o.keys) (hl : o.keys.l = [⟨5, 255⟩, ⟨0, 0⟩]) : ∃ g of, o.keys.A = some ⟨g, of, none⟩ ∧ w.cell? ⟨g, of, none⟩ = some (.int .u32 5) ∧ w.cell? ⟨g, of + 1, none⟩ = some (.int .u32 255) := by
 obtain ⟨g, of, e, _, hc⟩ := h.at (i := 0) (by rw [hl]; decide)
 refine ⟨g, of, e, ?_, ?_⟩
 ·
  have := hc 0 (by decide)
  simpa [hl, KmD.cells] using this
 ·
  have := hc 1 (by decide)
  simpa [hl, KmD.cells] using this
theorem awake_any (w : World) (ht : Tab w) (hm : MaxI w) : Calls Tryz.prog 9 #[] w fun e w' => e = .returned (.bool true) ∧ Below w.heap.size w w' := by
 have HT := hi_ ht
 have HM := hi_ hm
 clear ht hm
 go_enter Tryz.func9, Tryz.ntmps9
 go_wp2_with fail
 refine (sample_any w).mono ?_
 rintro e0 w0 ⟨gs, rfl, hat, hb0⟩
 have HG0 := samp_good hat
 have HF := hi_ (sampF gs)
 clear hat
 generalize sampP gs = p at *
 obtain ⟨W, hW, hbW, b0⟩ : ∃ W, W = w0.alloc (.cells (progCells p) 31) ∧ Below w0.heap.size w0 W ∧ Blk W w0.heap.size 31 (progCells p) := ⟨_, rfl, below1 _ _, Blk.new _ _ _⟩
 have HB0 : Hid (Below w.heap.size w W) := hi_ (below_step hb0 hbW)
 have HG := hi_ (HG0.below hbW)
 have HP := hi_ b0
 have HTW := hi_ (HT.out.base HB0.out)
 have HMW := hi_ (HM.out.below HB0.out (Nat.le_refl _))
 have HFo := hi_ (fun u (hb : Below W.heap.size W u) => oFormat_any p o7D u (HG.out.below hb) (o7_ok u) o7_fine (HTW.out.base hb))
 rw [show o7D.bare = o7 from rfl, HF.out.f] at HFo
 simp only [opCells, o7D, L.v, List.length_nil] at HFo
 have HPA := hi_ (fun (s : ByteArray) (hs : s.size ≤ 1000) u (hb : Below W.heap.size W u) => oParse_any p s u (HG.out.below hb) (Nat.le_trans hs (by unfold maxLen; decide)) (HTW.out.base hb))
 have HSA := hi_ (fun (s : ByteArray) u (hb : Below W.heap.size W u) => oscript_any p s u (HG.out.below hb) (HTW.out.base hb) (HMW.out.below hb (Nat.le_refl _)))
 clear HG0 hb0 hbW b0
 have hp3 : ∀ i, W.cell? ⟨w0.heap.size, i, none⟩ = (progCells p)[i]? := fun i => HP.out.cell i
 go_upto_region 2 with fail
 rw [← hW]
 clear hW
 go_wp2_with fail
 refine (HFo.out W (Below.refl _ _)).mono ?_
 rintro e1 w1 ⟨rfl, hb1⟩
 have HB1 := hi_ hb1
 clear hb1 hp3 HFo
 rw [show (⟨(tDel7, (0 : Int)).1.toArray⟩ : ByteArray) = ⟨#[100, 101, 108, 101, 116, 101, 32, 112, 97, 116, 104, 32, 55]⟩ from rfl]
 try simp only
 have hp3 : ∀ i, w1.cell? ⟨w0.heap.size, i, none⟩ = (progCells p)[i]? := fun i => (HP.out.below HB1.out HP.out.lt).cell i
 have HC := hi_ (HPA.out ⟨#[105, 110, 115, 101, 114, 116, 32, 112, 97, 116, 104, 32, 53, 47, 50, 53, 53, 32, 48, 47, 48, 32, 112, 114, 105, 111, 114, 105, 116, 121, 32, 51, 32, 45, 62, 32, 102, 111, 114, 119, 97, 114, 100, 40, 49, 44, 32, 50, 41]⟩ (by decide) w1 HB1.out)
 rw [show (⟨#[105, 110, 115, 101, 114, 116, 32, 112, 97, 116, 104, 32, 53, 47, 50, 53, 53, 32, 48, 47, 48, 32, 112, 114, 105, 111, 114, 105, 116, 121, 32, 51, 32, 45, 62, 32, 102, 111, 114, 119, 97, 114, 100, 40, 49, 44, 32, 50, 41]⟩ : ByteArray).data.toList = tIns from rfl] at HC
 go_wp2_with fail
 refine HC.out.mono ?_
 rw [HF.out.i]
 rintro e3 u3 ⟨o, rfl, hob, hL, hb⟩
 obtain ⟨X3, hX3⟩ : ∃ X3, X3 = u3.alloc (.cells (opCells o) 39) := ⟨_, rfl⟩
 have HX3 : Hid (Below w1.heap.size w1 X3) := hi_ (by rw [hX3]; exact below_alloc hb _)
 have HXO : Hid (Blk X3 u3.heap.size 39 (opCells o)) := hi_ (by rw [hX3]; exact Blk.new _ _ _)
 have HXL : Hid (OpOk X3 o) := hi_ (by rw [hX3]; exact hL.ok.below (below1 _ _))
 have HOB := hi_ hob
 clear hob hL
 have HBX3 := hi_ (below_step HB1.out HX3.out)
 clear hp3 HC hb HB1 HX3
 try simp only
 go_upto_region 4 with fail
 rw [← hX3]
 clear hX3
 have hp3 : ∀ i, X3.cell? ⟨w0.heap.size, i, none⟩ = (progCells p)[i]? := fun i => (HP.out.below HBX3.out HP.out.lt).cell i
 have HC := hi_ (HPA.out ⟨#[100, 101, 108, 101, 116, 101, 32, 32, 112, 97, 116, 104, 32, 55]⟩ (by decide) X3 HBX3.out)
 rw [show (⟨#[100, 101, 108, 101, 116, 101, 32, 32, 112, 97, 116, 104, 32, 55]⟩ : ByteArray).data.toList = tA from rfl] at HC
 go_wp2_with fail
 refine HC.out.mono ?_
 unfold ParseEnd
 rw [HF.out.a]
 rintro e4 u4 ⟨q4, rfl, _, _, hb⟩
 obtain ⟨X4, hX4⟩ : ∃ X4, X4 = u4.alloc (.cells (opCells q4) 39) := ⟨_, rfl⟩
 have HX4 : Hid (Below X3.heap.size X3 X4) := hi_ (by rw [hX4]; exact below_alloc hb _)
 have HXO1 := hi_ (HXO.out.below HX4.out HXO.out.lt)
 have HXL1 := hi_ (HXL.out.below HX4.out)
 clear HXO HXL
 have HBX4 := hi_ (below_step HBX3.out HX4.out)
 clear hp3 HC hb HBX3 HX4
 try simp only
 go_upto_region 5 with fail
 rw [← hX4]
 clear hX4
 have hp3 : ∀ i, X4.cell? ⟨w0.heap.size, i, none⟩ = (progCells p)[i]? := fun i => (HP.out.below HBX4.out HP.out.lt).cell i
 have HC := hi_ (HPA.out ⟨#[100, 101, 108, 101, 116, 101, 32, 112, 97, 116, 104]⟩ (by decide) X4 HBX4.out)
 rw [show (⟨#[100, 101, 108, 101, 116, 101, 32, 112, 97, 116, 104]⟩ : ByteArray).data.toList = tB from rfl] at HC
 go_wp2_with fail
 refine HC.out.mono ?_
 unfold ParseEnd
 rw [HF.out.b]
 rintro e5 u5 ⟨q5, rfl, _, _, hb⟩
 obtain ⟨X5, hX5⟩ : ∃ X5, X5 = u5.alloc (.cells (opCells q5) 39) := ⟨_, rfl⟩
 have HX5 : Hid (Below X4.heap.size X4 X5) := hi_ (by rw [hX5]; exact below_alloc hb _)
 have HXO2 := hi_ (HXO1.out.below HX5.out HXO1.out.lt)
 have HXL2 := hi_ (HXL1.out.below HX5.out)
 clear HXO1 HXL1
 have HBX5 := hi_ (below_step HBX4.out HX5.out)
 clear hp3 HC hb HBX4 HX5
 try simp only
 go_upto_region 6 with fail
 rw [← hX5]
 clear hX5
 have hp3 : ∀ i, X5.cell? ⟨w0.heap.size, i, none⟩ = (progCells p)[i]? := fun i => (HP.out.below HBX5.out HP.out.lt).cell i
 have HC := hi_ (HPA.out ⟨#[100, 101, 108, 101, 116, 101, 32, 111, 116, 104, 101, 114, 32, 55]⟩ (by decide) X5 HBX5.out)
 rw [show (⟨#[100, 101, 108, 101, 116, 101, 32, 111, 116, 104, 101, 114, 32, 55]⟩ : ByteArray).data.toList = tC from rfl] at HC
 go_wp2_with fail
 refine HC.out.mono ?_
 unfold ParseEnd
 rw [HF.out.c]
 rintro e6 u6 ⟨q6, rfl, _, _, hb⟩
 obtain ⟨X6, hX6⟩ : ∃ X6, X6 = u6.alloc (.cells (opCells q6) 39) := ⟨_, rfl⟩
 have HX6 : Hid (Below X5.heap.size X5 X6) := hi_ (by rw [hX6]; exact below_alloc hb _)
 have HXO3 := hi_ (HXO2.out.below HX6.out HXO2.out.lt)
 have HXL3 := hi_ (HXL2.out.below HX6.out)
 clear HXO2 HXL2
 have HBX6 := hi_ (below_step HBX5.out HX6.out)
 clear hp3 HC hb HBX5 HX6
 try simp only
 go_upto_region 7 with fail
 rw [← hX6]
 clear hX6
 have hp3 : ∀ i, X6.cell? ⟨w0.heap.size, i, none⟩ = (progCells p)[i]? := fun i => (HP.out.below HBX6.out HP.out.lt).cell i
 have HC := hi_ (HPA.out ⟨#[100, 101, 108, 101, 116, 101, 32, 112, 97, 116, 104, 32, 48]⟩ (by decide) X6 HBX6.out)
 rw [show (⟨#[100, 101, 108, 101, 116, 101, 32, 112, 97, 116, 104, 32, 48]⟩ : ByteArray).data.toList = tD from rfl] at HC
 go_wp2_with fail
 refine HC.out.mono ?_
 unfold ParseEnd
 rw [HF.out.d]
 rintro e7 u7 ⟨q7, rfl, _, _, hb⟩
 obtain ⟨X7, hX7⟩ : ∃ X7, X7 = u7.alloc (.cells (opCells q7) 39) := ⟨_, rfl⟩
 have HX7 : Hid (Below X6.heap.size X6 X7) := hi_ (by rw [hX7]; exact below_alloc hb _)
 have HXO4 := hi_ (HXO3.out.below HX7.out HXO3.out.lt)
 have HXL4 := hi_ (HXL3.out.below HX7.out)
 clear HXO3 HXL3
 have HBX7 := hi_ (below_step HBX6.out HX7.out)
 clear hp3 HC hb HBX6 HX7
 try simp only
 go_upto_region 8 with fail
 rw [← hX7]
 clear hX7
 have hp3 : ∀ i, X7.cell? ⟨w0.heap.size, i, none⟩ = (progCells p)[i]? := fun i => (HP.out.below HBX7.out HP.out.lt).cell i
 have HC := hi_ (HSA.out ⟨#[100, 101, 108, 101, 116, 101, 32, 112, 97, 116, 104, 32, 55, 10, 10, 100, 101, 102, 97, 117, 108, 116, 32, 112, 97, 116, 104, 32, 45, 62, 32, 100, 114, 111, 112, 40, 41]⟩ X7 HBX7.out)
 rw [show (⟨#[100, 101, 108, 101, 116, 101, 32, 112, 97, 116, 104, 32, 55, 10, 10, 100, 101, 102, 97, 117, 108, 116, 32, 112, 97, 116, 104, 32, 45, 62, 32, 100, 114, 111, 112, 40, 41]⟩ : ByteArray).data.toList = tScr from rfl, HF.out.s] at HC
 go_wp2_with fail
 refine HC.out.mono ?_
 rintro e8 w8 ⟨⟨sl, sA, sc⟩, rfl, hsl, _, _, _, hb⟩
 have hlen : sl.length = 2 := by have := congrArg List.length hsl; simpa using this
 have HXO5 := hi_ (HXO4.out.below hb HXO4.out.lt)
 have HXL5 := hi_ (HXL4.out.below hb)
 have HB8 := hi_ (below_step HB0.out (below_step HBX7.out hb))
 try simp only
 rw [hlen]
 clear hp3 HC hb hsl HXO4 HXL4
 obtain ⟨kd, tb, id, ⟨kl, kA, kc⟩, pr, ea, ⟨el, eA, ec⟩, ca, ⟨cl, cA, cc⟩⟩ := o
 simp only [OpD.bare, OpP.mk.injEq] at HOB
 have HOB2 := HOB.out
 obtain ⟨rfl, rfl, rfl, hkl, rfl, rfl, hel, rfl, rfl⟩ := HOB2
 obtain ⟨kg, ko, hkA, k0c, k1c⟩ := two_keys HXL5.out.keys hkl
 simp only at hkA
 subst hkA
 have d0 : w8.cell? ⟨u3.heap.size, 0, none⟩ = some (.int .i64 1) := HXO5.out.cell 0
 have d3 : w8.cell? ⟨u3.heap.size, 3, none⟩ = some (.slice (some ⟨kg, ko, none⟩) 2 kc) := by have := HXO5.out.cell 3; rw [this]; subst hkl; rfl
 have d4 : w8.cell? ⟨u3.heap.size, 4, none⟩ = some (.int .i64 3) := HXO5.out.cell 4
 have d6 : w8.cell? ⟨u3.heap.size, 6, none⟩ = some (.slice eA 2 ec) := by have := HXO5.out.cell 6; rw [this]; subst hel; rfl
 clear HOB hkl hel HXO5 HXL5
 go_upto_region 9 with fail
 go_wp2
 go_ret
 exact ⟨rfl, HB8.out⟩
def goB (f : CtlD → Nat) : List CtlD → Nat → Nat
 | [], n => n
 | x :: l, n => if 60 < n then n else goB f l (n + f x)
def blocksM : Nat → List CtlD → Nat
 | 0, _ => 61
 | d + 1, l => if 60 < l.length then 61 else goB (fun x => blocksM d x.th.l + blocksM d x.el.l + x.cond.l.length / 20) l l.length
theorem goB_le {f : CtlD → Nat} {B : Nat} : ∀ {l : List CtlD} {n : Nat}, (∀ x ∈ l, f x ≤ B) → n ≤ 60 + B → goB f l n ≤ 60 + B
 | [], n, _, hn => by rw [goB]; exact hn
 | x :: l, n, hf, hn => by
  rw [goB]
  by_cases h1 : 60 < n
  · rw [if_pos h1]; exact hn
  ·
   rw [if_neg h1]
   have h3 := hf x (List.mem_cons_self ..)
   exact goB_le (fun y hy => hf y (List.mem_cons_of_mem _ hy)) (by omega)
theorem blocks_le : ∀ (d : Nat) (l : List CtlD), CtlCaps l → blocksM d l + 293203100800 ≤ 2 ^ d * 293203100900
 | 0, l, _ => by rw [blocksM]; omega
 | d + 1, l, hc => by
  rw [blocksM]
  have hp : 2 ^ (d + 1) = 2 * 2 ^ d := by rw [Nat.pow_succ, Nat.mul_comm]
  have hp1 : 1 ≤ 2 ^ d := Nat.one_le_two_pow
  by_cases h1 : 60 < l.length
  · rw [if_pos h1, hp]; omega
  ·
   rw [if_neg h1]
   have h2 := goB_le (f := fun x => blocksM d x.th.l + blocksM d x.el.l + x.cond.l.length / 20) (B := 2 * (2 ^ d * 293203100900) - 2 * 293203100800 + 293203100731) (l := l) (n := l.length) (fun x hx => by
    obtain ⟨_, _, b, e⟩ := hc.mem hx
    have h3 := hc.memc hx
    have h4 := blocks_le d x.th.l b
    have h5 := blocks_le d x.el.l e
    have h6 : x.cond.l.length / 20 ≤ 293203100731 := by omega
    omega) (by omega)
   rw [hp, Nat.mul_assoc]
   omega
theorem blocks_top (d : Nat) (hd : d ≤ 21) (l : List CtlD) (hc : CtlCaps l) : blocksM d l ≤ 700000000000000000 := by
 have h1 := blocks_le d l hc
 have : 2 ^ d ≤ 2 ^ 21 := Nat.pow_le_pow_right (by decide) hd
 have : 2 ^ d * 293203100900 ≤ 2 ^ 21 * 293203100900 := Nat.mul_le_mul_right _ this
 omega
theorem goB_small {f : CtlD → Nat} : ∀ {l : List CtlD} {n : Nat}, goB f l n ≤ 60 → (l.map f).sum + n = goB f l n
 | [], n, h => by simp [goB]
 | x :: l, n, h => by
  rw [goB] at h ⊢
  by_cases h1 : 60 < n
  · rw [if_pos h1] at h; omega
  ·
   rw [if_neg h1] at h ⊢
   have b := goB_small h
   rw [← b, List.map_cons, List.sum_cons]; omega
theorem sum_leB {f g : CtlD → Nat} : ∀ {l : List CtlD}, (∀ x ∈ l, f x ≤ g x) → (l.map f).sum ≤ (l.map g).sum
 | [], _ => Nat.le_refl _
 | x :: l, h => by
  simp only [List.map_cons, List.sum_cons]
  have := h x (List.mem_cons_self ..)
  have := sum_leB (l := l) fun y hy => h y (List.mem_cons_of_mem _ hy)
  omega
theorem sum_succB {f : CtlD → Nat} : ∀ {l : List CtlD}, (l.map fun x => 1 + f x).sum = (l.map f).sum + l.length
 | [] => rfl
 | x :: l => by simp only [List.map_cons, List.sum_cons, List.length_cons, sum_succB (l := l)]; omega
theorem blocks_small : ∀ (d : Nat) (l : List CtlD), blocksM d l ≤ 60 → (presM l).length ≤ blocksM d l
 | 0, l, h => by rw [blocksM] at h; omega
 | d + 1, l, h => by
  rw [blocksM] at h ⊢
  by_cases h1 : 60 < l.length
  · rw [if_pos h1] at h; omega
  ·
   rw [if_neg h1] at h ⊢
   have b := goB_small h
   rw [← b, pres_sum, ← sum_succB]
   refine sum_leB fun x hm => ?_
   have hx := sum_mem (f := fun x => blocksM d x.th.l + blocksM d x.el.l + x.cond.l.length / 20) hm
   have h1 := blocks_small d x.th.l (by omega)
   have h2 := blocks_small d x.el.l (by omega)
   rw [preM_eq, List.length_cons, List.length_append]
   omega
theorem cblocks_any : ∀ (d : Nat) (D : Int) (c : L CtlD) (w : World), D = 21 - (d : Int) → d ≤ 21 → CtlCaps c.l → LOk w 5 CtlD.cells c → CtlsOk w c.l →
    Calls Tryz.prog 19 #[.slice c.A c.l.length c.c, .int .i64 D, .int .i64 60] w fun e w' => e = .returned (.int .i64 (blocksM d c.l : Int)) ∧ Below w.heap.size w w'
  | 0, D, ⟨cl, cA, cc⟩, w, hD, _, _, hc, _ => by
    have hd0 : D = 21 := by omega
    subst hd0
    have HE : Hid (blocksM 0 cl = 61) := hi_ rfl
    simp only
    have hl := hc.1
    unfold maxLen at hl
    clear hD hc
    by_cases h0 : 60 < cl.length
    · have h2 : ((60 : Int) < (cl.length : Int)) := by omega
      go_enter Tryz.func19, Tryz.ntmps19
      go_wp2
      go_ret
      exact ⟨by rw [HE.out]; rfl, Below.refl _ _⟩
    · have h2 : ¬ ((60 : Int) < (cl.length : Int)) := by omega
      go_enter Tryz.func19, Tryz.ntmps19
      go_wp2
      go_ret
      exact ⟨by rw [HE.out]; rfl, Below.refl _ _⟩
  | d + 1, D, ⟨cl, cA, cc⟩, w, hD, hd, hcap, hc, hcs => by
    have IH := hi_ (cblocks_any d)
    have HC := hi_ hc
    have HCS := hi_ hcs
    have HCap := hi_ hcap
    have hl := hc.1
    unfold maxLen at hl
    have HD := hi_ (show IntKind.i64.wrap (D + 1) = 21 - (d : Int) by rw [IntWalk.i64_in _ (by omega)]; omega)
    have HDle := hi_ (show d ≤ 21 by omega)
    have hD1 : 0 ≤ D := by omega
    have hD2 : ¬ (20 < D) := by omega
    simp only at hl HCS HCap ⊢
    by_cases h60 : 60 < cl.length
    · have HE : Hid (blocksM (d + 1) cl = 61) := hi_ (by rw [blocksM, if_pos h60])
      have h2 : ((60 : Int) < (cl.length : Int)) := by omega
      clear hc hcs hcap hD hd
      go_enter Tryz.func19, Tryz.ntmps19
      go_wp2
      go_ret
      exact ⟨by rw [HE.out]; rfl, Below.refl _ _⟩
    have h2 : ¬ ((60 : Int) < (cl.length : Int)) := by omega
    obtain ⟨f, hf⟩ : ∃ f : CtlD → Nat, f = fun x => blocksM d x.th.l + blocksM d x.el.l + x.cond.l.length / 20 := ⟨_, rfl⟩
    have HF := hi_ hf
    have HE : Hid (goB f cl cl.length = blocksM (d + 1) cl) := hi_ (by rw [hf, blocksM, if_neg h60])
    have hl60 : cl.length ≤ 60 := by omega
    clear hc hcs hcap hD hd hf
    generalize blocksM (d + 1) cl = R at *
    go_enter Tryz.func19, Tryz.ntmps19
    go_wp2
    go_loopw [7, 8] (fun nv iv wr => ∃ k n : Nat, k ≤ cl.length ∧ iv = .int .i64 k ∧ nv = .int .i64 n ∧ n ≤ 2000000000000000000 ∧ Hid (goB f (cl.drop k) n = R) ∧ Below w.heap.size w wr) (fun _ i _ => cl.length - (intOf i).toNat)
    case atStart => exact ⟨0, cl.length, Nat.zero_le _, rfl, rfl, by omega, HE, Below.refl _ _⟩
    case round =>
      obtain ⟨k, n, hk, rfl, rfl, hn, HG, HB⟩ := hrel
      by_cases hlt : k < cl.length
      · by_cases hn1 : 60 < n
        · have HR : Hid (R = n) := hi_ (by rw [← HG.out, List.drop_eq_getElem_cons hlt, goB, if_pos hn1])
          have hn2 : ¬ ((n : Int) ≤ 60) := by omega
          clear hn1
          go_wp2
          go_ret
          exact ⟨by rw [HR.out]; rfl, HB⟩
        · obtain ⟨g0, of0, hA, hall⟩ := CtlD.atA (HC.out.below HB (Nat.le_refl _)) hlt
          have hn2 : ((n : Int) ≤ 60) := by omega
          simp only at hA
          subst hA
          have HX : Hid (CtlOk w cl[k]) := hi_ (ctls_mem HCS.out (List.getElem_mem hlt))
          have HXc := hi_ (HCap.out.mem (List.getElem_mem hlt))
          have hcc := HCap.out.memc (List.getElem_mem hlt)
          have HS : Hid (goB f (cl.drop k) n = goB f (cl.drop (k + 1)) (n + f cl[k])) := hi_ (by
            rw [List.drop_eq_getElem_cons hlt, goB, if_neg hn1])
          have HTop : Hid (blocksM d cl[k].th.l ≤ 700000000000000000 ∧ blocksM d cl[k].el.l ≤ 700000000000000000) := hi_ ⟨blocks_top d HDle.out _ HXc.out.2.2.1, blocks_top d HDle.out _ HXc.out.2.2.2⟩
          have HFx : Hid (f cl[k] = blocksM d cl[k].th.l + blocksM d cl[k].el.l + cl[k].cond.l.length / 20) := hi_ (by rw [HF.out])
          generalize cl[k] = x at *
          have HXt : Hid (LOk w 5 CtlD.cells x.th ∧ CtlsOk w x.th.l) := hi_ ⟨(ctl_parts HX.out).2.1, (ctl_parts HX.out).2.2.2.1⟩
          have HXe : Hid (LOk w 5 CtlD.cells x.el ∧ CtlsOk w x.el.l) := hi_ ⟨(ctl_parts HX.out).2.2.1, (ctl_parts HX.out).2.2.2.2⟩
          clear HX
          have HR := hi_ (HS.out.symm.trans HG.out)
          rw [HFx.out] at HR
          have hb3 : ∀ w', Below wr.heap.size wr w' → w'.cell? ⟨g0, of0 + k * 5 + 2, none⟩ = some (.slice x.cond.A x.cond.l.length x.cond.c) ∧ w'.cell? ⟨g0, of0 + k * 5 + 3, none⟩ = some (.slice x.th.A x.th.l.length x.th.c) ∧ w'.cell? ⟨g0, of0 + k * 5 + 4, none⟩ = some (.slice x.el.A x.el.l.length x.el.c) :=
            fun w' h => ⟨(hall w' h).2.2.1, (hall w' h).2.2.2.1, (hall w' h).2.2.2.2⟩
          clear hall HFx
          generalize x.cond = xcd at *
          generalize x.th = xt at *
          generalize x.el = xe at *
          obtain ⟨dl, dA, dc⟩ := xcd
          obtain ⟨tl, tA, tc⟩ := xt
          obtain ⟨el, eA, ec⟩ := xe
          simp only at hb3 HXt HXe HXc HTop HR hcc
          have HCt : Hid (∀ w', Below wr.heap.size wr w' → Calls Tryz.prog 19 #[.slice tA tl.length tc, .int .i64 (IntKind.i64.wrap (D + 1)), .int .i64 60] w' fun e w2 => e = .returned (.int .i64 (blocksM d tl : Int)) ∧ Below w'.heap.size w' w2) :=
            hi_ (fun w' h => IH.out (IntKind.i64.wrap (D + 1)) ⟨tl, tA, tc⟩ w' HD.out HDle.out HXc.out.2.2.1 (HXt.out.1.below (below_step HB h) (Nat.le_refl _)) (CtlsOk.below (below_step HB h) HXt.out.2))
          have HCe : Hid (∀ w', Below wr.heap.size wr w' → Calls Tryz.prog 19 #[.slice eA el.length ec, .int .i64 (IntKind.i64.wrap (D + 1)), .int .i64 60] w' fun e w2 => e = .returned (.int .i64 (blocksM d el : Int)) ∧ Below w'.heap.size w' w2) :=
            hi_ (fun w' h => IH.out (IntKind.i64.wrap (D + 1)) ⟨el, eA, ec⟩ w' HD.out HDle.out HXc.out.2.2.2 (HXe.out.1.below (below_step HB h) (Nat.le_refl _)) (CtlsOk.below (below_step HB h) HXe.out.2))
          have t1 := HTop.out.1
          have t2 := HTop.out.2
          have hdv : (dl.length : Int).tdiv 20 = ((dl.length / 20 : Nat) : Int) := by rw [Int.tdiv_eq_ediv_of_nonneg (by omega)]; rfl
          have hdu : dl.length / 20 ≤ 293203100731 := by omega
          generalize dl.length / 20 = dq at *
          generalize blocksM d tl = a at *
          generalize blocksM d el = b at *
          have H0 := hi_ (Below.refl wr.heap.size wr)
          have HBw := hi_ HB
          clear HB HXt HXe HXc HTop
          go_upto_region 7 with fail
          go_region_held3 (fun w' => Below wr.heap.size wr w') (first | exact H0.out | exact below_drew H0.out | (exact below_step (by assumption) (by assumption)) | assumption)
            (first | (go_at_call 19; with_reducible (refine (HCt.out _ (by assumption)).mono ?_); rintro e w1 ⟨rfl, hb1⟩)
                   | (go_at_call 19; with_reducible (refine (HCe.out _ (by assumption)).mono ?_); rintro e w1 ⟨rfl, hb1⟩))
          have HB5 : Hid (Below wr.heap.size wr _) := hi_ (by assumption)
          go_wp2
          go_roundw
          case rel => exact ⟨k + 1, n + (a + b + dq), by omega, by go_num, by (rw [IntWalk.i64_in (dq : Int) (by omega), IntWalk.i64_in ((a : Int) + (b : Int)) (by omega), IntWalk.i64_in ((a : Int) + (b : Int) + (dq : Int)) (by omega), IntWalk.i64_in ((n : Int) + ((a : Int) + (b : Int) + (dq : Int))) (by omega)]; first | (congr 1; done) | (congr 1; omega)), by omega, HR, below_step HBw.out HB5.out⟩
          case measure => simp [intOf]; omega
      · have HR : Hid (R = n) := hi_ (by rw [← HG.out, List.drop_eq_nil_of_le (by omega), goB])
        go_wp2
        go_ret
        exact ⟨by rw [HR.out]; rfl, HB⟩
def YesO (e : Ending) (Q : Prop) : Prop := ∃ b, e = .returned (.bool b) ∧ (b = true → Q)
theorem YesO.no {Q : Prop} : YesO (.returned (.bool false)) Q := ⟨false, rfl, by intro h; cases h⟩
theorem YesO.yes {Q : Prop} (h : Q) : YesO (.returned (.bool true)) Q := ⟨true, rfl, fun _ => h⟩
structure Sm16 (p : ProgD) : Prop where
 headers : p.headers.l.length ≤ 20
 metadata : p.metadata.l.length ≤ 30
 registers : p.registers.l.length ≤ 20
 actions : p.actions.l.length ≤ 40
structure Sm22 (p : ProgD) : Prop extends Sm16 p where
 tables : p.tables.l.length ≤ 30
 states : p.states.l.length ≤ 30
 deparser : p.deparser.l.length ≤ 30
 nodes : (presM p.control.l).length ≤ 60
theorem small16_any (p : ProgD) (w : World) (o : ProgOk w p) :
  Calls Tryz.prog 18 #[.agg (progCells p)] w fun e w' => YesO e (Sm16 p) ∧ Below w.heap.size w w' := by
 obtain ⟨W, hW⟩ : ∃ W, W = w.alloc (.cells (progCells p) 31) := ⟨_, rfl⟩
 have HW : Hid (Below w.heap.size w W) := hi_ (by rw [hW]; exact below1 _ _)
 have HP : Hid (Blk W w.heap.size 31 (progCells p)) := hi_ (by rw [hW]; exact Blk.new _ _ _)
 have HQ := hi_ (fun w' (h : Below W.heap.size W w') (i : Nat) => (HP.out.below h HP.out.lt).cell i)
 have HO := hi_ (o.below HW.out)
 have HB0 := hi_ (Below.refl W.heap.size W)
 have L1 := o.headers.1
 have L2 := o.metadata.1
 have L3 := o.registers.1
 have L4 := o.actions.1
 unfold maxLen at L1 L2 L3 L4
 clear o HP
 go_enter Tryz.func18, Tryz.ntmps18
 go_upto_region 1 with fail
 rw [← hW]
 clear hW
 have s1 : W.cell? ⟨w.heap.size, 1, none⟩ = some (.slice p.headers.A p.headers.l.length p.headers.c) := HQ.out W HB0.out 1
 have s2 : W.cell? ⟨w.heap.size, 2, none⟩ = some (.slice p.metadata.A p.metadata.l.length p.metadata.c) := HQ.out W HB0.out 2
 have s3 : W.cell? ⟨w.heap.size, 3, none⟩ = some (.slice p.registers.A p.registers.l.length p.registers.c) := HQ.out W HB0.out 3
 have s4 : W.cell? ⟨w.heap.size, 4, none⟩ = some (.slice p.actions.A p.actions.l.length p.actions.c) := HQ.out W HB0.out 4
 by_cases c0 : (20 : Int) < (p.headers.l.length : Int)
 case pos =>
  go_wp2
  go_ret
  exact ⟨YesO.no, below_step HW.out HB0.out⟩
 by_cases c1 : (30 : Int) < (p.metadata.l.length : Int)
 case pos =>
  go_wp2
  go_ret
  exact ⟨YesO.no, below_step HW.out HB0.out⟩
 by_cases c2 : (20 : Int) < (p.registers.l.length : Int)
 case pos =>
  go_wp2
  go_ret
  exact ⟨YesO.no, below_step HW.out HB0.out⟩
 by_cases c3 : (40 : Int) < (p.actions.l.length : Int)
 case pos =>
  go_wp2
  go_ret
  exact ⟨YesO.no, below_step HW.out HB0.out⟩
 have HS : Hid (Sm16 p) := hi_ ⟨by omega, by omega, by omega, by omega⟩
 have bn0 : p.headers.l.length ≤ 20 := by omega
 have bn1 : p.registers.l.length ≤ 20 := by omega
 have bn2 : p.actions.l.length ≤ 40 := by omega
 go_wp2
 clear s1 s2 s3 s4 c0 c1 c2 c3 L1 L2 L3 L4
 go_loopw [3, 4] (fun iv _ wr => ∃ k : Nat, k ≤ p.actions.l.length ∧ iv = .int .i64 k ∧ Below W.heap.size W wr) (fun i _ _ => p.actions.l.length - (intOf i).toNat)
 case atStart => exact ⟨0, Nat.zero_le _, rfl, HB0.out⟩
 case round =>
 obtain ⟨k, hk, rfl, HB⟩ := hrel
 have s4 : wr.cell? ⟨w.heap.size, 4, none⟩ = some (.slice p.actions.A p.actions.l.length p.actions.c) := HQ.out wr HB 4
 by_cases hlt : k < p.actions.l.length
 case pos =>
  obtain ⟨g, of, hA, hall⟩ := ActD.atA HO.out.actions hlt
  have hd := hall wr HB
  rw [hA] at s4
  have hBe := hi_ HB
  have HLT := hi_ (show k + 1 ≤ p.actions.l.length from hlt)
  have HIn := hi_ (HO.out.act _ (List.getElem_mem hlt))
  generalize p.actions.l[k] = s at *
  obtain ⟨nm, pl, bl⟩ := s
  simp only at hall hd HIn
  obtain ⟨d0, d1, d2⟩ := hd
  by_cases t0 : (20 : Int) < (pl.l.length : Int)
  case pos =>
   go_wp2
   go_ret
   exact ⟨YesO.no, below_step HW.out hBe.out⟩
  by_cases t1 : (30 : Int) < (bl.l.length : Int)
  case pos =>
   go_wp2
   go_ret
   exact ⟨YesO.no, below_step HW.out hBe.out⟩
  have HAl := hi_ hall
  have HAA := hi_ hA
  clear hall hA HB
  go_wp2
  clear d0 d1 d2 s4
  go_loopw [4] (fun iv wr => ∃ j : Nat, j ≤ bl.l.length ∧ iv = .int .i64 j ∧ Below W.heap.size W wr) (fun i _ => bl.l.length - (intOf i).toNat)
  case atStart => exact ⟨0, Nat.zero_le _, rfl, hBe.out⟩
  case round =>
   obtain ⟨j, hj, rfl, HB⟩ := hrel
   have s4 : wr.cell? ⟨w.heap.size, 4, none⟩ = some (.slice p.actions.A p.actions.l.length p.actions.c) := HQ.out wr HB 4
   rw [HAA.out] at s4
   have hd := HAl.out wr HB
   obtain ⟨d0, d1, d2⟩ := hd
   have hBi := hi_ HB
   by_cases hjt : j < bl.l.length
   ·
    obtain ⟨g2, of2, hA2, hall2⟩ := StmtD.atA HIn.out.body hjt
    have hd2 := hall2 wr HB
    have HJT := hi_ (show j + 1 ≤ bl.l.length from hjt)
    obtain ⟨ql, qA, qc⟩ := bl
    simp only at hA2 hd2 HJT hj hjt d2 t1
    subst hA2
    generalize ql[j] = s2 at *
    obtain ⟨z1, z2, z3, z4, z5, il, vl⟩ := s2
    simp only at hd2
    obtain ⟨e0, e1, e2, e3, e4, e5, e6⟩ := hd2
    clear hall2
    by_cases u0 : (60 : Int) < (il.l.length : Int)
    case pos =>
     go_wp2
     go_ret
     exact ⟨YesO.no, below_step HW.out hBi.out⟩
    by_cases u1 : (60 : Int) < (vl.l.length : Int)
    case pos =>
     go_wp2
     go_ret
     exact ⟨YesO.no, below_step HW.out hBi.out⟩
    go_wp2
    go_roundw
    case rel => exact ⟨j + 1, HJT.out, by go_num, hBi.out⟩
    case measure => have := HJT.out; simp [intOf]; omega
   ·
    go_wp2
    go_roundw
    case rel => exact ⟨k + 1, HLT.out, by go_num, hBi.out⟩
    case measure => have := HLT.out; simp [intOf]; omega
 have hk' : k = p.actions.l.length := by omega
 have HBk := hi_ HB
 clear HB
 have s1 : wr.cell? ⟨w.heap.size, 1, none⟩ = some (.slice p.headers.A p.headers.l.length p.headers.c) := HQ.out wr HBk.out 1
 go_wp2
 clear s4 s1 hlt hk hk'
 go_loopw [5] (fun iv wr => ∃ k : Nat, k ≤ p.headers.l.length ∧ iv = .int .i64 k ∧ Below W.heap.size W wr) (fun i _ => p.headers.l.length - (intOf i).toNat)
 case atStart => exact ⟨0, Nat.zero_le _, rfl, HBk.out⟩
 case round =>
 obtain ⟨k, hk, rfl, HB⟩ := hrel
 have s1 : wr.cell? ⟨w.heap.size, 1, none⟩ = some (.slice p.headers.A p.headers.l.length p.headers.c) := HQ.out wr HB 1
 by_cases hlt : k < p.headers.l.length
 case pos =>
  obtain ⟨g, of, hA, hall⟩ := HeaderD.atA HO.out.headers hlt
  have hd := hall wr HB
  rw [hA] at s1
  have hBe := hi_ HB
  have HLT := hi_ (show k + 1 ≤ p.headers.l.length from hlt)
  generalize p.headers.l[k] = s at *
  obtain ⟨nm, fl⟩ := s
  simp only at hall hd
  obtain ⟨d0, d1⟩ := hd
  clear hall hA
  by_cases t0 : (40 : Int) < (fl.l.length : Int)
  case pos =>
   go_wp2
   go_ret
   exact ⟨YesO.no, below_step HW.out hBe.out⟩
  go_wp2
  go_roundw
  case rel => exact ⟨k + 1, HLT.out, by go_num, hBe.out⟩
  case measure => have := HLT.out; simp [intOf]; omega
 have hk' : k = p.headers.l.length := by omega
 have HBk := hi_ HB
 clear HB
 have s3 : wr.cell? ⟨w.heap.size, 3, none⟩ = some (.slice p.registers.A p.registers.l.length p.registers.c) := HQ.out wr HBk.out 3
 go_wp2
 clear s3 s1 hlt hk hk'
 go_loopw [6] (fun iv wr => ∃ k : Nat, k ≤ p.registers.l.length ∧ iv = .int .i64 k ∧ Below W.heap.size W wr) (fun i _ => p.registers.l.length - (intOf i).toNat)
 case atStart => exact ⟨0, Nat.zero_le _, rfl, HBk.out⟩
 case round =>
 obtain ⟨k, hk, rfl, HB⟩ := hrel
 have s3 : wr.cell? ⟨w.heap.size, 3, none⟩ = some (.slice p.registers.A p.registers.l.length p.registers.c) := HQ.out wr HB 3
 by_cases hlt : k < p.registers.l.length
 case pos =>
  obtain ⟨g, of, hA, hall⟩ := RegD.atA HO.out.registers hlt
  have hd := hall wr HB
  rw [hA] at s3
  have hBe := hi_ HB
  have HLT := hi_ (show k + 1 ≤ p.registers.l.length from hlt)
  generalize p.registers.l[k] = s at *
  obtain ⟨nm, z1, z2⟩ := s
  simp only at hall hd
  obtain ⟨d0, d1, d2⟩ := hd
  clear hall hA
  by_cases t0 : (200 : Int) < z2
  case pos =>
   go_wp2
   go_ret
   exact ⟨YesO.no, below_step HW.out hBe.out⟩
  go_wp2
  go_roundw
  case rel => exact ⟨k + 1, HLT.out, by go_num, hBe.out⟩
  case measure => have := HLT.out; simp [intOf]; omega
 have hk' : k = p.registers.l.length := by omega
 have HBk := hi_ HB
 clear HB
 go_wp2
 go_ret
 exact ⟨YesO.yes HS.out, below_step HW.out HBk.out⟩
theorem small22_any (p : ProgD) (w : World) (o : ProgOk w p) (hcap : CtlCaps p.control.l) :
  Calls Tryz.prog 7 #[.agg (progCells p)] w fun e w' => YesO e (Sm22 p) ∧ Below w.heap.size w w' := by
 obtain ⟨W, hW⟩ : ∃ W, W = w.alloc (.cells (progCells p) 31) := ⟨_, rfl⟩
 have HW : Hid (Below w.heap.size w W) := hi_ (by rw [hW]; exact below1 _ _)
 have HP : Hid (Blk W w.heap.size 31 (progCells p)) := hi_ (by rw [hW]; exact Blk.new _ _ _)
 have HQ := hi_ (fun w' (h : Below W.heap.size W w') (i : Nat) => (HP.out.below h HP.out.lt).cell i)
 have HO := hi_ (o.below HW.out)
 have HB0 := hi_ (Below.refl W.heap.size W)
 have L5 := o.tables.1
 have L6 := o.states.1
 have L8 := o.deparser.1
 unfold maxLen at L5 L6 L8
 have HC16 := hi_ (fun u (hb : Below W.heap.size W u) => small16_any p u (HO.out.below hb))
 have HCb := hi_ (fun u (hb : Below W.heap.size W u) => cblocks_any 21 0 p.control u rfl (Nat.le_refl _) hcap (HO.out.control.below hb (Nat.le_refl _)) (CtlsOk.below hb HO.out.ctl))
 have HBS := hi_ (blocks_small 21 p.control.l)
 have hbt := blocks_top 21 (Nat.le_refl _) p.control.l hcap
 generalize blocksM 21 p.control.l = nb at *
 clear o HP hcap
 go_enter Tryz.func7, Tryz.ntmps7
 go_upto_region 1 with fail
 rw [← hW]
 clear hW
 have s1 : W.cell? ⟨w.heap.size, 1, none⟩ = some (.slice p.headers.A p.headers.l.length p.headers.c) := HQ.out W HB0.out 1
 have s2 : W.cell? ⟨w.heap.size, 2, none⟩ = some (.slice p.metadata.A p.metadata.l.length p.metadata.c) := HQ.out W HB0.out 2
 have s3 : W.cell? ⟨w.heap.size, 3, none⟩ = some (.slice p.registers.A p.registers.l.length p.registers.c) := HQ.out W HB0.out 3
 have s4 : W.cell? ⟨w.heap.size, 4, none⟩ = some (.slice p.actions.A p.actions.l.length p.actions.c) := HQ.out W HB0.out 4
 have s5 : W.cell? ⟨w.heap.size, 5, none⟩ = some (.slice p.tables.A p.tables.l.length p.tables.c) := HQ.out W HB0.out 5
 have s6 : W.cell? ⟨w.heap.size, 6, none⟩ = some (.slice p.states.A p.states.l.length p.states.c) := HQ.out W HB0.out 6
 have s7 : W.cell? ⟨w.heap.size, 7, none⟩ = some (.slice p.control.A p.control.l.length p.control.c) := HQ.out W HB0.out 7
 have s8 : W.cell? ⟨w.heap.size, 8, none⟩ = some (.slice p.deparser.A p.deparser.l.length p.deparser.c) := HQ.out W HB0.out 8
 have s0 : W.cell? ⟨w.heap.size, 0, none⟩ = some (.string p.name) := HQ.out W HB0.out 0
 go_wp2_with fail
 refine (HC16.out _ HB0.out).mono ?_
 rintro e w1 ⟨⟨b, rfl, hb⟩, hb1⟩
 replace HB1 := hi_ (below_step HB0.out hb1)
 clear s0 s1 s2 s3 s4 s5 s6 s7 s8 hb1
 cases b with
 | false =>
  go_wp2
  go_ret
  exact ⟨YesO.no, below_step HW.out HB1.out⟩
 | true =>
 have H16 := hi_ (hb rfl)
 clear hb
 have s5 : w1.cell? ⟨w.heap.size, 5, none⟩ = some (.slice p.tables.A p.tables.l.length p.tables.c) := HQ.out w1 HB1.out 5
 have s6 : w1.cell? ⟨w.heap.size, 6, none⟩ = some (.slice p.states.A p.states.l.length p.states.c) := HQ.out w1 HB1.out 6
 have s7 : w1.cell? ⟨w.heap.size, 7, none⟩ = some (.slice p.control.A p.control.l.length p.control.c) := HQ.out w1 HB1.out 7
 have s8 : w1.cell? ⟨w.heap.size, 8, none⟩ = some (.slice p.deparser.A p.deparser.l.length p.deparser.c) := HQ.out w1 HB1.out 8
 by_cases c0 : (30 : Int) < (p.tables.l.length : Int)
 case pos =>
  go_wp2
  go_ret
  exact ⟨YesO.no, below_step HW.out HB1.out⟩
 by_cases c1 : (30 : Int) < (p.states.l.length : Int)
 case pos =>
  go_wp2
  go_ret
  exact ⟨YesO.no, below_step HW.out HB1.out⟩
 by_cases c2 : (30 : Int) < (p.deparser.l.length : Int)
 case pos =>
  go_wp2
  go_ret
  exact ⟨YesO.no, below_step HW.out HB1.out⟩
 go_wp2_with fail
 refine (HCb.out _ HB1.out).mono ?_
 rintro e w2 ⟨rfl, hb2⟩
 have HB2 := hi_ (below_step HB1.out hb2)
 clear s5 s6 s7 s8 hb2
 by_cases c4 : (60 : Int) < (nb : Int)
 case pos =>
  go_wp2
  go_ret
  exact ⟨YesO.no, below_step HW.out HB2.out⟩
 have HS : Hid (Sm22 p) := hi_ ⟨H16.out, by omega, by omega, by omega, by have := HBS.out (by omega); omega⟩
 have bn0 : p.tables.l.length ≤ 30 := by omega
 have bn1 : p.states.l.length ≤ 30 := by omega
 have s5 : w2.cell? ⟨w.heap.size, 5, none⟩ = some (.slice p.tables.A p.tables.l.length p.tables.c) := HQ.out w2 HB2.out 5
 go_wp2
 clear s5 c0 c1 c2 c4 L5 L6 L8
 go_loopw [3] (fun iv wr => ∃ k : Nat, k ≤ p.tables.l.length ∧ iv = .int .i64 k ∧ Below W.heap.size W wr) (fun i _ => p.tables.l.length - (intOf i).toNat)
 case atStart => exact ⟨0, Nat.zero_le _, rfl, HB2.out⟩
 case round =>
 obtain ⟨k, hk, rfl, HB⟩ := hrel
 have s5 : wr.cell? ⟨w.heap.size, 5, none⟩ = some (.slice p.tables.A p.tables.l.length p.tables.c) := HQ.out wr HB 5
 by_cases hlt : k < p.tables.l.length
 case pos =>
  obtain ⟨g, of, hA, hall⟩ := TabD.atA HO.out.tables hlt
  have hd := hall wr HB
  rw [hA] at s5
  have hBe := hi_ HB
  have HLT := hi_ (show k + 1 ≤ p.tables.l.length from hlt)
  generalize p.tables.l[k] = s at *
  obtain ⟨nm, kl, al, z1, gl, z2⟩ := s
  simp only at hall hd
  obtain ⟨d0, d1, d2, d3, d4, d5⟩ := hd
  clear hall hA
  by_cases t0 : (20 : Int) < (kl.l.length : Int)
  case pos =>
   go_wp2
   go_ret
   exact ⟨YesO.no, below_step HW.out hBe.out⟩
  by_cases t1 : (40 : Int) < (al.l.length : Int)
  case pos =>
   go_wp2
   go_ret
   exact ⟨YesO.no, below_step HW.out hBe.out⟩
  by_cases t2 : (40 : Int) < (gl.l.length : Int)
  case pos =>
   go_wp2
   go_ret
   exact ⟨YesO.no, below_step HW.out hBe.out⟩
  go_wp2
  go_roundw
  case rel => exact ⟨k + 1, HLT.out, by go_num, hBe.out⟩
  case measure => have := HLT.out; simp [intOf]; omega
 have hk' : k = p.tables.l.length := by omega
 have HBk := hi_ HB
 clear HB
 have s6 : wr.cell? ⟨w.heap.size, 6, none⟩ = some (.slice p.states.A p.states.l.length p.states.c) := HQ.out wr HBk.out 6
 go_wp2
 clear s6 s5 hlt hk hk'
 go_loopw [4] (fun iv wr => ∃ k : Nat, k ≤ p.states.l.length ∧ iv = .int .i64 k ∧ Below W.heap.size W wr) (fun i _ => p.states.l.length - (intOf i).toNat)
 case atStart => exact ⟨0, Nat.zero_le _, rfl, HBk.out⟩
 case round =>
 obtain ⟨k, hk, rfl, HB⟩ := hrel
 have s6 : wr.cell? ⟨w.heap.size, 6, none⟩ = some (.slice p.states.A p.states.l.length p.states.c) := HQ.out wr HB 6
 by_cases hlt : k < p.states.l.length
 case pos =>
  obtain ⟨g, of, hA, hall⟩ := StateD.atA HO.out.states hlt
  have hd := hall wr HB
  rw [hA] at s6
  have hBe := hi_ HB
  have HLT := hi_ (show k + 1 ≤ p.states.l.length from hlt)
  generalize p.states.l[k] = s at *
  obtain ⟨nm, xl, z1, z2, z3, cl, z4⟩ := s
  simp only at hall hd
  obtain ⟨d0, d1, d2, d3, d4, d5, d6⟩ := hd
  clear hall hA
  by_cases t0 : (20 : Int) < (xl.l.length : Int)
  case pos =>
   go_wp2
   go_ret
   exact ⟨YesO.no, below_step HW.out hBe.out⟩
  by_cases t1 : (20 : Int) < (cl.l.length : Int)
  case pos =>
   go_wp2
   go_ret
   exact ⟨YesO.no, below_step HW.out hBe.out⟩
  go_wp2
  go_roundw
  case rel => exact ⟨k + 1, HLT.out, by go_num, hBe.out⟩
  case measure => have := HLT.out; simp [intOf]; omega
 have hk' : k = p.states.l.length := by omega
 have HBk := hi_ HB
 clear HB
 go_wp2
 go_ret
 exact ⟨YesO.yes HS.out, below_step HW.out HBk.out⟩
theorem Sm22.good {w : World} {p : ProgD} (h : Sm22 p) (o : ProgOk w p) (c : ProgCap p) : ProgG w p :=
 ⟨o, c, Nat.le_trans h.nodes (by decide), Nat.le_trans h.actions (by decide), Nat.le_trans h.tables (by decide)⟩
theorem can_fine {o : OpP} (h : OpFine o) : OpFine (canO o) := by
 unfold canO
 split
 · exact ⟨rfl, h.table, rfl, h.keys, h.prio, h.ea, h.eargs, rfl, fun v hv => by cases hv⟩
 ·
  split
  · exact ⟨rfl, h.table, h.id, (fun v hv => by cases hv), rfl, rfl, (fun v hv => by cases hv), h.ca, h.cargs⟩
  ·
   split
   · exact ⟨rfl, h.table, h.id, (fun v hv => by cases hv), rfl, rfl, (fun v hv => by cases hv), rfl, (fun v hv => by cases hv)⟩
   · exact ⟨rfl, h.table, rfl, (fun v hv => by cases hv), rfl, rfl, (fun v hv => by cases hv), h.ca, h.cargs⟩
theorem fmt_back {p : ProgD} {x : OpP} (hf : OpFine x) (hs : OpShort x) (h : (formatM p x).2 = 0) :
  parseOpM p (formatM p x).1 = (canO x, 0) ∧ formatM p (canO x) = ((formatM p x).1, 0) ∧ (canO x).kind = x.kind ∧ (canO x).table = x.table ∧ (formatM p x).1.length ≤ 16384 := by
 by_cases hz : (diagM p).code = 0
 case neg => rw [formatM, if_pos hz] at h; exact absurd h hz
 have hck := diagM_ok hz
 have e1 : ∀ y, formatM p y = fmtOp p y := fun y => by rw [formatM, if_neg (fun k => k hz)]
 rw [e1] at h
 by_cases hc : opChk p x = 0
 case neg => rw [fmtOp, if_pos hc] at h; exact absurd h hc
 have e2 : fmtOp p x = (opT p x, 0) := by rw [fmtOp, if_neg (fun k => k hc)]
 obtain ⟨h1, h2, h3, h4, h5⟩ := read_back hck hf hs hc
 have e3 : fmtOp p (canO x) = (opT p x, 0) := by rw [fmtOp, if_neg (fun k => k h2), h3]
 rw [e1, e1, e2, e3, parseOpM, if_neg (fun k => k hz)]
 exact ⟨h1, rfl, h4, h5, opT_len (op_well hck hf hs hc) hs⟩
theorem osmall_any (x : OpD) (w : World) :
  Calls Tryz.prog 8 #[.agg (opCells x)] w fun e w' => YesO e (OpShort x.bare) ∧ Below w.heap.size w w' := by
 obtain ⟨W, hW, hw, HB, hp⟩ := box1 w (opCells x) 39
 have HW := hi_ hw
 obtain ⟨kd, tb, id, ks, pr, ea, eg, ca, cg⟩ := x
 clear hw
 by_cases h1 : ks.l.length ≤ 30
 case neg =>
  have e1 : decide ((ks.l.length : Int) ≤ 30) = false := decide_eq_false (by omega)
  have e2 : decide (ks.l.length ≤ 30) = false := decide_eq_false h1
  clear h1
  go_enter Tryz.func8, Tryz.ntmps8
  go_upto_region 1 with fail
  rw [← hW]
  clear hW
  have hp3 := hp W HB
  go_wp2
  go_ret
  exact ⟨YesO.no, below_step HW.out HB⟩
 have e1 : decide ((ks.l.length : Int) ≤ 30) = true := decide_eq_true (by omega)
 have e2 : decide (ks.l.length ≤ 30) = true := decide_eq_true h1
 by_cases h2 : eg.l.length ≤ 30
 case neg =>
  have e3 : decide ((eg.l.length : Int) ≤ 30) = false := decide_eq_false (by omega)
  have e4 : decide (eg.l.length ≤ 30) = false := decide_eq_false h2
  clear h1 h2
  go_enter Tryz.func8, Tryz.ntmps8
  go_upto_region 1 with fail
  rw [← hW]
  clear hW
  have hp3 := hp W HB
  go_wp2
  go_ret
  exact ⟨YesO.no, below_step HW.out HB⟩
 have e3 : decide ((eg.l.length : Int) ≤ 30) = true := decide_eq_true (by omega)
 have e4 : decide (eg.l.length ≤ 30) = true := decide_eq_true h2
 by_cases h3 : cg.l.length ≤ 30
 case neg =>
  have e5 : decide ((cg.l.length : Int) ≤ 30) = false := decide_eq_false (by omega)
  have e6 : decide (cg.l.length ≤ 30) = false := decide_eq_false h3
  clear h1 h2 h3
  go_enter Tryz.func8, Tryz.ntmps8
  go_upto_region 1 with fail
  rw [← hW]
  clear hW
  have hp3 := hp W HB
  go_wp2
  go_ret
  exact ⟨YesO.no, below_step HW.out HB⟩
 have e5 : decide ((cg.l.length : Int) ≤ 30) = true := decide_eq_true (by omega)
 have e6 : decide (cg.l.length ≤ 30) = true := decide_eq_true h3
 have HS : Hid (OpShort (OpD.bare ⟨kd, tb, id, ks, pr, ea, eg, ca, cg⟩)) := hi_ ⟨h1, h2, h3⟩
 clear h1 h2 h3
 go_enter Tryz.func8, Tryz.ntmps8
 go_upto_region 1 with fail
 rw [← hW]
 clear hW
 have hp3 := hp W HB
 go_wp2
 go_ret
 exact ⟨YesO.yes HS.out, below_step HW.out HB⟩
theorem maxI_of {w : World} (hm : ∃ m, w.cell? ⟨0, 0, none⟩ = some (.int .i64 m)) : MaxI w := by
 refine ⟨?_, hm⟩
 obtain ⟨m, hm⟩ := hm
 rcases Nat.eq_zero_or_pos w.heap.size with h | h
 ·
  have : w.cell? ⟨0, 0, none⟩ = none := by simp [World.cell?, Array.getElem?_eq_none_iff.2 (show w.heap.size ≤ 0 by omega)]
  rw [this] at hm; cases hm
 · exact h
theorem law_formats (p : ProgD) (x : OpD) (w : World) (o : ProgOk w p) (hc : ProgCap p) (hcc : CtlCaps p.control.l) (hx : OpOk w x) (hf : OpFine x.bare) (hm : ∃ m, w.cell? ⟨0, 0, none⟩ = some (.int .i64 m)) (ht : Tab w) :
  Calls Tryz.prog 3 #[.agg (progCells p), .agg (opCells x)] w fun e w' => e = .returned (.bool true) ∧ Below w.heap.size w w' := by
 have hmi := maxI_of hm
 obtain ⟨W, hW, hw, HB, hp⟩ := box2 w (progCells p) 31 (opCells x) 39
 have HW := hi_ hw
 have HO := hi_ (o.below hw)
 have HT := hi_ (ht.base hw)
 have HM := hi_ (hmi.below hw (Nat.le_refl _))
 have HSM := hi_ (small22_any p W HO.out hcc)
 have HSO := hi_ (fun u => osmall_any x u)
 have HAW := hi_ (fun u (h : Below W.heap.size W u) => awake_any u (HT.out.base h) (HM.out.below h (Nat.le_refl _)))
 have HC := hi_ hc
 have HX := hi_ (hx.below hw)
 have HF := hi_ hf
 have HBk := hi_ (fun hs h => fmt_back (p := p) (x := x.bare) hf hs h)
 have hp3 := (hp W HB).1
 have hp4 := (hp W HB).2
 clear hw o hc hcc hm hmi ht hx hf
 go_enter Tryz.func3, Tryz.ntmps3
 go_upto_region 1 with fail
 rw [← hW]
 clear hW
 go_wp2_with fail
 refine HSM.out.mono ?_
 rintro r w1 ⟨⟨bs, rfl, hbs⟩, hb1⟩
 have H1 := hi_ hb1
 have HSS := hi_ hbs
 clear hb1 hbs HSM hp3 hp4 HB
 cases bs with
 | false =>
  go_wp2_with fail
  refine (HAW.out w1 H1.out).mono ?_
  rintro r w9 ⟨rfl, hb9⟩
  have H9 := hi_ (below_step H1.out hb9)
  clear hb9
  go_wp2
  go_ret
  exact ⟨rfl, below_step HW.out H9.out⟩
 | true =>
  have hp4 := (hp w1 H1.out).2
  go_wp2_with fail
  refine (HSO.out w1).mono ?_
  rintro r w2 ⟨⟨bo, rfl, hbo⟩, hb2⟩
  have H2 := hi_ (below_step H1.out hb2)
  have HSH := hi_ hbo
  clear hb2 hbo HSO hp4 H1
  cases bo with
  | false =>
   go_wp2_with fail
   refine (HAW.out w2 H2.out).mono ?_
   rintro r w9 ⟨rfl, hb9⟩
   have H9 := hi_ (below_step H2.out hb9)
   clear hb9
   go_wp2
   go_ret
   exact ⟨rfl, below_step HW.out H9.out⟩
  | true =>
   have HG := hi_ ((HSS.out (by trivial)).good HO.out HC.out)
   have HB2 := hi_ (HBk.out (HSH.out (by trivial)))
   have HFo := hi_ (fun u (h : Below W.heap.size W u) => oFormat_any p x u (HG.out.below h) (HX.out.below h) HF.out (HT.out.base h))
   have HFr := hi_ (fun u (h : Below W.heap.size W u) => rFormat_any p x u (HG.out.below h) (HX.out.below h) HF.out)
   have HF2 := hi_ (fun (y : OpD) u (h : Below W.heap.size W u) (hy : OpOk u y) (hf : OpFine y.bare) => oFormat_any p y u (HG.out.below h) hy hf (HT.out.base h))
   have HPa := hi_ (fun (s : ByteArray) (hs : s.size ≤ maxLen) u (h : Below W.heap.size W u) => oParse_any p s u (HG.out.below h) hs (HT.out.base h))
   have HFc := hi_ (can_fine HF.out)
   clear HSS HSH HBk
   have HK : Hid (x.kind = x.bare.kind ∧ x.table = x.bare.table) := hi_ ⟨rfl, rfl⟩
   generalize formatM p x.bare = F at *
   obtain ⟨T, z⟩ := F
   simp only at HB2 HFo HFr
   have hp3 := (hp w2 H2.out).1
   have hp4 := (hp w2 H2.out).2
   go_wp2_with fail
   refine (HFo.out w2 H2.out).mono ?_
   rintro r w3 ⟨rfl, hb3⟩
   have H3 := hi_ (below_step H2.out hb3)
   clear hb3 hp3 hp4 H2
   have hp3 := (hp w3 H3.out).1
   have hp4 := (hp w3 H3.out).2
   go_wp2_with fail
   refine (HFr.out w3 H3.out).mono ?_
   rintro r w4 ⟨rfl, hb4⟩
   have H4 := hi_ (below_step H3.out hb4)
   clear hb4 hp3 hp4 H3
   by_cases hz : z = 0
   case neg =>
    have q1 : (z != 0) = true := bne_iff_ne.2 hz
    go_wp2_with fail
    refine (HAW.out w4 H4.out).mono ?_
    rintro r w9 ⟨rfl, hb9⟩
    have H9 := hi_ (below_step H4.out hb9)
    clear hb9
    go_wp2
    go_ret
    exact ⟨rfl, below_step HW.out H9.out⟩
   obtain ⟨h1, h2, h3, h4, h5⟩ := HB2.out hz
   subst hz
   have HP1 := hi_ h1
   have HP2 := hi_ h2
   have HP3 := hi_ (show (canO x.bare).kind = x.kind from h3)
   have HP4 := hi_ (show (canO x.bare).table = x.table from h4)
   obtain ⟨TS, hTS⟩ : ∃ s : ByteArray, s = ⟨T.toArray⟩ := ⟨_, rfl⟩
   have HPA := hi_ (HPa.out TS (by rw [hTS]; exact Nat.le_trans h5 (by unfold maxLen; decide)) w4 H4.out)
   rw [show TS.data.toList = T by rw [hTS], HP1.out] at HPA
   rw [← hTS]
   have HTS := hi_ hTS
   clear h1 h2 h3 h4 h5 hTS HB2 HP1
   unfold ParseEnd at HPA
   simp only at HPA
   have hp3 := (hp w4 H4.out).1
   go_wp2_with fail
   refine HPA.out.mono ?_
   rintro r w5 ⟨y, rfl, hyb, hyl, hb5⟩
   have H5 := hi_ (below_step H4.out hb5)
   have HY := hi_ hyl.ok
   have HYb := hi_ hyb
   clear hb5 hyb hyl hp3 H4 HPA HPa
   obtain ⟨X, hX⟩ : ∃ X, X = w5.alloc (.cells (opCells y) 39) := ⟨_, rfl⟩
   have HXO : Hid (Blk X w5.heap.size 39 (opCells y)) := hi_ (by rw [hX]; exact Blk.new _ _ _)
   have HBX : Hid (Below W.heap.size W X) := hi_ (by rw [hX]; exact below_alloc H5.out _)
   have HYX : Hid (OpOk X y) := hi_ (by rw [hX]; exact HY.out.below (below1 _ _))
   go_upto_region 10 with fail
   rw [← hX]
   clear hX H5 HY
   have HFF := hi_ (HF2.out y X HBX.out HYX.out (by rw [HYb.out]; exact HFc.out))
   rw [HYb.out, HP2.out] at HFF
   have HY3 : Hid (y.kind = x.kind) := hi_ (by have h := congrArg OpP.kind HYb.out; exact h.trans HP3.out)
   have HY4 : Hid (y.table = x.table) := hi_ (by have h := congrArg OpP.table HYb.out; exact h.trans HP4.out)
   simp only at HFF
   rw [← HTS.out] at HFF
   have hp3 := (hp X HBX.out).1
   have ho3 : ∀ i, X.cell? ⟨w5.heap.size, i, none⟩ = (opCells y)[i]? := fun i => HXO.out.cell i
   go_wp2_with fail
   refine HFF.out.mono ?_
   rintro r w6 ⟨rfl, hb6⟩
   have H6 := hi_ (below_step HBX.out hb6)
   have HX6 := hi_ (HXO.out.below hb6 HXO.out.lt)
   clear hb6 hp3 ho3 HFF
   have hp4 := (hp w6 H6.out).2
   obtain ⟨kd, tb, id, ks, pr, ea, eg, ca, cg⟩ := x
   obtain ⟨kd2, tb2, id2, ks2, pr2, ea2, eg2, ca2, cg2⟩ := y
   simp only at HY3 HY4
   have y3 := HY3.out
   have y4 := HY4.out
   subst y3 y4
   have o0 : w6.cell? ⟨w5.heap.size, 0, none⟩ = some (.int .i64 kd2) := HX6.out.cell 0
   have o1 : w6.cell? ⟨w5.heap.size, 1, none⟩ = some (.int .i64 tb2) := HX6.out.cell 1
   go_wp2_with fail
   refine (HAW.out w6 H6.out).mono ?_
   rintro r w9 ⟨rfl, hb9⟩
   have H9 := hi_ (below_step H6.out hb9)
   clear hb9
   go_wp2
   go_ret
   exact ⟨rfl, below_step HW.out H9.out⟩
end Go.Proofs.YtofjapcgbajmiaaGreatDoor
