/- Walks and plain laws that the proof of the law OptextFormats stands on. No condition beyond those that each states. -/
import Derived.Test.YtofjapcgbajmiaaGreatDoorKFc
namespace Go.Proofs.YtofjapcgbajmiaaGreatDoor
open Go.RowKit
set_option maxRecDepth 100000
set_option maxHeartbeats 32000000
theorem rparserCheck_any (p : ProgD) (w : World) (o : ProgOk w p) (hc : ∀ s ∈ p.states.l, ∀ c ∈ s.cases.l, (Lit.int .u32 c.value).wf = true ∧ (Lit.int .u32 c.mask).wf = true) :
  Calls Tryz.prog 116 #[.agg (progCells p)] w fun e w' => e = .returned (.tuple #[.int .i64 (parserM p).1, .int .i64 (parserM p).2.1, .int .i64 (parserM p).2.2]) ∧ Below w.heap.size w w' := by
 have HO := hi_ o
 have HC := hi_ hc
 obtain ⟨W, hW, hw, HB, hp⟩ := box1 w (progCells p) 31
 have HW := hi_ hw
 have HR := hi_ (parserM.eq_1 p)
 have HS := hi_ (stateAt_stM p)
 clear o hw hc
 by_cases h1 : p.states.l.length = 0
 ·
  replace HR := tr_ HR (if_pos h1)
  have h1' : ((p.states.l.length : Int) == 0) = true := by rw [beq_iff_eq]; omega
  clear h1
  go_enter Tryz.func116, Tryz.ntmps116
  go_upto_region 1 with fail
  rw [← hW]
  clear hW
  go_wp2
  go_ret3
  exact ⟨ret_3 HR.out, below_step HW.out HB⟩
 replace HR := tr_ HR (if_neg h1)
 have h1' : ((p.states.l.length : Int) == 0) = false := by rw [beq_eq_false_iff_ne]; omega
 clear h1
 by_cases h2 : 12 < p.states.l.length
 ·
  replace HR := tr_ HR (if_pos h2)
  go_enter Tryz.func116, Tryz.ntmps116
  go_upto_region 1 with fail
  rw [← hW]
  clear hW
  go_wp2
  go_ret3
  exact ⟨ret_3 HR.out, below_step HW.out HB⟩
 replace HR := tr_ HR (if_neg h2)
 have h3 : p.states.l.length ≤ 12 := by omega
 clear h2
 have HB1 := hi_ HB
 go_enter Tryz.func116, Tryz.ntmps116
 go_upto_region 1 with fail
 rw [← hW]
 clear hW
 go_wp2
 clear HB
 go_loopw [5, 6, 7] (fun iv _ _ wr => ∃ k : Nat, k ≤ p.states.l.length ∧ iv = .int .i64 k ∧ (∀ j, j < k → stateAtM p j = none) ∧ Below W.heap.size W wr) (fun i _ _ _ => p.states.l.length - (intOf i).toNat)
 case atStart => exact ⟨0, Nat.zero_le _, rfl, fun j h => absurd h (Nat.not_lt_zero _), HB1.out⟩
 case round =>
  obtain ⟨k, hk, rfl, hpre, HB⟩ := hrel
  have HPre := hi_ hpre
  clear hpre
  have hp3 := hp wr HB
  by_cases hlt : k < p.states.l.length
  ·
   have HE := hi_ (HS.out k hlt)
   have HCS := hi_ (fun w o => rstate_any p k hlt w o (HC.out _ (List.getElem_mem hlt)))
   have hlt' : (k : Int) < (p.states.l.length : Int) := by omega
   generalize p.states.l[k] = s at *
   go_wp2_with fail
   refine (HCS.out _ (HO.out.below (below_step HW.out (by first | exact HB | exact ba1 HB | exact ba2 HB | exact ba3 HB)))).mono ?_
   rintro e w2 ⟨rfl, hbN⟩
   replace HB := below_step (by first | exact HB | exact ba1 HB | exact ba2 HB | exact ba3 HB) hbN
   clear hbN
   generalize stM p k s = r at *
   obtain ⟨ra, rc⟩ := r
   simp only at HE
   by_cases k1 : rc = 0
   ·
    subst k1
    have HP2 := hi_ (firstE_step HPre.out (HE.out.trans (if_neg (by simp))))
    go_wp2
    go_roundw
    case rel => exact ⟨k + 1, by omega, by go_num, HP2.out, HB⟩
    case measure => simp [intOf]; omega
   ·
    have HR2 := hi_ (HR.out.trans (show _ = ((k : Int), ra, rc) by rw [firstE_some hlt HPre.out (HE.out.trans (if_pos k1))]))
    have k1' : (rc == 0) = false := bf_ k1
    clear k1
    go_wp2
    go_ret3
    exact ⟨ret_3 HR2.out, below_step HW.out HB⟩
  ·
   have e : k = p.states.l.length := by omega
   have HR2 := hi_ (HR.out.trans (show _ = ((0 : Int), (0 : Int), (0 : Int)) by rw [firstE_none (by rw [← e]; exact HPre.out)]))
   go_wp2
   go_ret3
   exact ⟨ret_3 HR2.out, below_step HW.out HB⟩
theorem mem_take {l : List Int} {i : Nat} (hi : i < l.length) :
  (∀ j (hj : j < l.length), j < i → l[j] = l[i] → l[i] ∈ l.take i) ∧ ((∀ j (hj : j < l.length), j < i → l[j] ≠ l[i]) → l[i] ∉ l.take i) := by
 constructor
 ·
  intro j hj hji e
  exact List.mem_take_iff_getElem.2 ⟨j, by omega, e⟩
 ·
  intro h hm
  obtain ⟨j, hj, e⟩ := List.mem_take_iff_getElem.1 hm
  exact h j (by omega) (by omega) e
theorem rdepCheck_any (p : ProgD) (w : World) (o : ProgOk w p) :
  Calls Tryz.prog 118 #[.agg (progCells p)] w fun e w' => e = .returned (.tuple #[.int .i64 (depM p).1, .int .i64 (depM p).2]) ∧ Below w.heap.size w w' := by
 obtain ⟨W, hW, hw, HB, hp⟩ := box1 w (progCells p) 31
 have HW := hi_ hw
 have HX := hi_ (o.deparser.below hw (Nat.le_refl _))
 have HR := hi_ (depM.eq_1 p)
 have HS := hi_ (depAtM_at p p.deparser.l)
 clear o hw
 by_cases h1 : 8 < p.deparser.l.length
 ·
  replace HR := tr_ HR (if_pos h1)
  go_enter Tryz.func118, Tryz.ntmps118
  go_upto_region 1 with fail
  rw [← hW]
  clear hW
  go_wp2
  go_ret2
  exact ⟨ret_pp HR.out, below_step HW.out HB⟩
 replace HR := tr_ HR (if_neg h1)
 have h3 : p.deparser.l.length ≤ 8 := by omega
 clear h1
 have HB1 := hi_ HB
 simp only [progCells] at hp hW ⊢
 generalize hx : p.deparser = x at *
 clear hx
 obtain ⟨l, A0, c0⟩ := x
 simp only at HR HS HX hp h3 ⊢
 go_enter Tryz.func118, Tryz.ntmps118
 go_upto_region 1 with fail
 rw [← hW]
 clear hW
 go_wp2
 clear HB
 go_loopw [4, 5] (fun iv _ wr => ∃ k : Nat, k ≤ l.length ∧ iv = .int .i64 k ∧ (∀ j, j < k → depAtM p l j = none) ∧ Below W.heap.size W wr) (fun i _ _ => l.length - (intOf i).toNat)
 case atStart => exact ⟨0, Nat.zero_le _, rfl, fun j h => absurd h (Nat.not_lt_zero _), HB1.out⟩
 case round =>
 obtain ⟨i, hi, rfl, hpre, HB⟩ := hrel
 have HPre := hi_ hpre
 clear hpre HB1
 have hp3 := hp wr HB
 by_cases hlt : i < l.length
 ·
  obtain ⟨g, of, hA, hall⟩ := icell_allA HX.out (show 0 < l.length by omega)
  simp only at hA hall
  subst hA
  have HAL := hi_ hall
  have HALi := hi_ (fun w' h => hall w' h i hlt)
  have HE := hi_ (HS.out i hlt)
  have HD := hi_ (mem_take hlt)
  have hlt' : (i : Int) < (l.length : Int) := by omega
  clear hall
  generalize l[i] = y at *
  have d0 := HALi.out wr HB
  have hcase : y < 0 ∨ (0 ≤ y ∧ (p.headers.l.length : Int) ≤ y) ∨ (0 ≤ y ∧ y < (p.headers.l.length : Int)) := by omega
  rcases hcase with h1 | ⟨h1, h2⟩ | ⟨h1, h2⟩
  ·
   have HE2 := tr_ HE (if_pos (Or.inl h1))
   have HR2 := hi_ (HR.out.trans (show _ = ((i : Int), (8 : Int)) by rw [firstE_some hlt HPre.out HE2.out]))
   have b1 : decide (y < 0) = true := decide_eq_true h1
   go_wp2
   go_quiet (fail)
   go_wp2
   go_ret2
   exact ⟨ret_pp HR2.out, below_step HW.out (below_drewN HB _)⟩
  ·
   have HE2 := tr_ HE (if_pos (Or.inr h2))
   have HR2 := hi_ (HR.out.trans (show _ = ((i : Int), (8 : Int)) by rw [firstE_some hlt HPre.out HE2.out]))
   have b1 : decide (y < 0) = false := decide_eq_false (by omega)
   go_wp2
   go_quiet (fail)
   go_wp2
   go_ret2
   exact ⟨ret_pp HR2.out, below_step HW.out (below_drewN HB _)⟩
  have HE2 := hi_ (HE.out.trans (if_neg (show ¬ (y < 0 ∨ (p.headers.l.length : Int) ≤ y) by omega)))
  have b1 : decide (y < 0) = false := decide_eq_false (by omega)
  have HB0 := hi_ HB
  go_wp2
  go_quiet (fail)
  go_wp2
  clear HB d0 hp3
  go_loopw [5] (fun iv wr => ∃ k : Nat, k ≤ i ∧ iv = .int .i64 k ∧ Hid (∀ j (hj : j < l.length), j < k → l[j] ≠ y) ∧ Below W.heap.size W wr) (fun k _ => i - (intOf k).toNat)
  case atStart => exact ⟨0, Nat.zero_le _, rfl, hi_ (fun j _ hj => absurd hj (Nat.not_lt_zero _)), below_drewN HB0.out _⟩
  case round =>
  clear HB0
  obtain ⟨k, hk, rfl, HK, HB⟩ := hrel
  have d0 := HALi.out _ HB
  have hp3 := hp _ HB
  by_cases hki : k < i
  ·
   have hkl : k < l.length := by omega
   have hkl' : (k : Int) < (l.length : Int) := by omega
   have e0 := HAL.out _ HB k hkl
   have HY : Hid (l[k] = y → y ∈ l.take i) := hi_ (fun e => HD.out.1 k hkl hki e)
   have HZ : Hid (l[k] ≠ y → ∀ j (hj : j < l.length), j < k + 1 → l[j] ≠ y) := hi_ (fun hne => pre_ne (f := fun _ (a : Int) => a ≠ y) HK.out hne)
   generalize l[k] = t at *
   by_cases ht : t = y
   ·
    have HR2 := hi_ (HR.out.trans (show _ = ((i : Int), (7 : Int)) by rw [firstE_some hlt HPre.out (HE2.out.trans (if_pos (HY.out ht)))]))
    have ht' : (t == y) = true := beq_iff_eq.2 ht
    clear ht HY HZ
    go_wp2
    go_quiet (fail)
    go_wp2
    go_ret2
    exact ⟨ret_pp HR2.out, below_step HW.out (below_drewN HB _)⟩
   ·
    have HZ2 := hi_ (HZ.out ht)
    have ht' : (t == y) = false := bf_ ht
    clear ht HY HZ
    go_wp2
    go_quiet (fail)
    go_wp2
    go_roundw
    case rel => exact ⟨k + 1, by omega, by go_num, HZ2, below_drewN HB _⟩
    case measure => simp [intOf]; omega
  ·
   have e : k = i := by omega
   subst e
   have HP2 := hi_ (firstE_step HPre.out (HE2.out.trans (if_neg (HD.out.2 HK.out))))
   go_wp2
   go_roundw
   case rel => exact ⟨k + 1, by omega, by go_num, HP2.out, HB⟩
   case measure => simp [intOf]; omega
 ·
  have e : i = l.length := by omega
  have HR2 := hi_ (HR.out.trans (show _ = ((0 : Int), (0 : Int)) by rw [firstE_none (by rw [← e]; exact HPre.out)]))
  go_wp2
  go_ret2
  exact ⟨ret_pp HR2.out, below_step HW.out HB⟩
theorem pres_take {l : List CtlD} {k : Nat} (h : k < l.length) : presM (l.take (k + 1)) = presM (l.take k) ++ l[k] :: (presM l[k].th.l ++ presM l[k].el.l) := by
 rw [take_snoc l k h, presM_snoc]
theorem pres_part (l : List CtlD) (k : Nat) : (presM (l.take k)).length ≤ (presM l).length := by
 have := congrArg List.length (presM_append (l.take k) (l.drop k))
 rw [List.take_append_drop, List.length_append] at this
 omega
theorem rcount_any : ∀ (N : Nat) (c : L CtlD) (w : World), (presM c.l).length < N → (presM c.l).length ≤ 90000 → LOk w 5 CtlD.cells c → CtlsOk w c.l →
    Calls Tryz.prog 183 #[.slice c.A c.l.length c.c] w fun e w' => e = .returned (.int .i64 ((presM c.l).length : Int)) ∧ Below w.heap.size w w'
  | 0, _, _, h, _, _, _ => absurd h (Nat.not_lt_zero _)
  | m + 1, ⟨cl, cA, cc⟩, w, hm, hN, hc, hcs => by
    have IH := hi_ (rcount_any m)
    have HC := hi_ hc
    have HCS := hi_ hcs
    have HM := hi_ hm
    have HN := hi_ hN
    have hlen := hc.1
    unfold maxLen at hlen
    simp only at hlen HCS HM HN
    clear hc hcs hm hN
    go_enter Tryz.func183, Tryz.ntmps183
    go_wp2
    go_loopw [3, 4] (fun nv iv wr => ∃ k n : Nat, k ≤ cl.length ∧ iv = .int .i64 k ∧ nv = .int .i64 n ∧ n ≤ 90000 ∧ Hid (n = (presM (cl.take k)).length) ∧ Below w.heap.size w wr) (fun _ i _ => cl.length - (intOf i).toNat)
    case atStart => exact ⟨0, 0, Nat.zero_le _, rfl, rfl, by omega, hi_ rfl, Below.refl _ _⟩
    case round =>
      obtain ⟨k, n, hk, rfl, rfl, hn, HG, HB⟩ := hrel
      by_cases hlt : k < cl.length
      · obtain ⟨g0, of0, hA, hall⟩ := CtlD.atA (HC.out.below HB (Nat.le_refl _)) hlt
        simp only at hA
        subst hA
        have HX : Hid (CtlOk w cl[k]) := hi_ (ctls_mem HCS.out (List.getElem_mem hlt))
        have HS : Hid ((presM (cl.take (k + 1))).length = (presM (cl.take k)).length + (1 + (presM cl[k].th.l).length + (presM cl[k].el.l).length)) := hi_ (by
          rw [pres_take hlt, List.length_append, List.length_cons, List.length_append]; omega)
        have HP := hi_ (pres_th (List.getElem_mem hlt))
        have HL : Hid ((presM (cl.take (k + 1))).length ≤ 90000) := hi_ (Nat.le_trans (pres_part cl (k + 1)) HN.out)
        generalize cl[k] = x at *
        have hb3 : ∀ w', Below wr.heap.size wr w' → w'.cell? ⟨g0, of0 + k * 5 + 3, none⟩ = some (.slice x.th.A x.th.l.length x.th.c) ∧ w'.cell? ⟨g0, of0 + k * 5 + 4, none⟩ = some (.slice x.el.A x.el.l.length x.el.c) :=
          fun w' h => ⟨(hall w' h).2.2.2.1, (hall w' h).2.2.2.2⟩
        have HXt : Hid (LOk w 5 CtlD.cells x.th ∧ CtlsOk w x.th.l) := hi_ ⟨(ctl_parts HX.out).2.1, (ctl_parts HX.out).2.2.2.1⟩
        have HXe : Hid (LOk w 5 CtlD.cells x.el ∧ CtlsOk w x.el.l) := hi_ ⟨(ctl_parts HX.out).2.2.1, (ctl_parts HX.out).2.2.2.2⟩
        have HPn : Hid ((presM x.th.l).length < m ∧ (presM x.th.l).length ≤ 90000 ∧ (presM x.el.l).length < m ∧ (presM x.el.l).length ≤ 90000) := hi_ (by
          have h1 := HP.out.1
          have h2 := HP.out.2.2.1
          have h3 := HM.out
          have h4 := HN.out
          omega)
        clear hall HX HP
        generalize x.th = xt at *
        generalize x.el = xe at *
        obtain ⟨tl, tA, tc⟩ := xt
        obtain ⟨el, eA, ec⟩ := xe
        simp only at hb3 HXt HXe HPn HS
        have HCt : Hid (∀ w', Below wr.heap.size wr w' → Calls Tryz.prog 183 #[.slice tA tl.length tc] w' fun e w2 => e = .returned (.int .i64 ((presM tl).length : Int)) ∧ Below w'.heap.size w' w2) :=
          hi_ (fun w' h => IH.out ⟨tl, tA, tc⟩ w' HPn.out.1 HPn.out.2.1 (HXt.out.1.below (below_step HB h) (Nat.le_refl _)) (CtlsOk.below (below_step HB h) HXt.out.2))
        have HCe : Hid (∀ w', Below wr.heap.size wr w' → Calls Tryz.prog 183 #[.slice eA el.length ec] w' fun e w2 => e = .returned (.int .i64 ((presM el).length : Int)) ∧ Below w'.heap.size w' w2) :=
          hi_ (fun w' h => IH.out ⟨el, eA, ec⟩ w' HPn.out.2.2.1 HPn.out.2.2.2 (HXe.out.1.below (below_step HB h) (Nat.le_refl _)) (CtlsOk.below (below_step HB h) HXe.out.2))
        have ht1 := HPn.out.2.1
        have ht2 := HPn.out.2.2.2
        generalize (presM tl).length = a at *
        generalize (presM el).length = b at *
        have H0 := hi_ (Below.refl wr.heap.size wr)
        have HBw := hi_ HB
        have hlt' : (k : Int) < (cl.length : Int) := by omega
        clear HB HXt HXe HPn
        go_wp2
        go_region_held3 (fun w' => Below wr.heap.size wr w') (first | exact H0.out | exact below_drew H0.out | (exact below_step (by assumption) (by assumption)) | assumption)
          (first | (go_at_call 183; with_reducible (refine (HCt.out _ (by assumption)).mono ?_); rintro e w1 ⟨rfl, hb1⟩)
                 | (go_at_call 183; with_reducible (refine (HCe.out _ (by assumption)).mono ?_); rintro e w1 ⟨rfl, hb1⟩))
        have HB5 : Hid (Below wr.heap.size wr _) := hi_ (by assumption)
        go_wp2
        go_roundw
        case rel => exact ⟨k + 1, n + (1 + a + b), by omega, by go_num, (by rw [IntWalk.i64_in (1 + (a : Int)) (by omega), IntWalk.i64_in (1 + (a : Int) + (b : Int)) (by omega), IntWalk.i64_in ((n : Int) + (1 + (a : Int) + (b : Int))) (by omega)]; congr 1), by have := HS.out; have := HG.out; have := HL.out; omega, hi_ (by rw [HS.out, ← HG.out]), below_step HBw.out HB5.out⟩
        case measure => simp [intOf]; omega
      · have e : k = cl.length := by omega
        have HR : Hid (n = (presM cl).length) := hi_ (by have := HG.out; rwa [e, List.take_length] at this)
        go_wp2
        go_ret
        exact ⟨by rw [HR.out]; rfl, HB⟩
theorem max3 (n a b : Nat) : (if (if (n : Int) < 1 + (a : Int) then 1 + (a : Int) else (n : Int)) < 1 + (b : Int) then 1 + (b : Int) else if (n : Int) < 1 + (a : Int) then 1 + (a : Int) else (n : Int)) = ((max n (max a b + 1) : Nat) : Int) := by
 by_cases h1 : (n : Int) < 1 + (a : Int)
 ·
  rw [if_pos h1]
  by_cases h2 : 1 + (a : Int) < 1 + (b : Int)
  · rw [if_pos h2]; omega
  · rw [if_neg h2]; omega
 ·
  rw [if_neg h1]
  by_cases h2 : (n : Int) < 1 + (b : Int)
  · rw [if_pos h2]; omega
  · rw [if_neg h2]; omega
theorem rnesting_any : ∀ (m : Nat) (c : L CtlD) (w : World), nestM c.l < m → nestM c.l ≤ 90000 → LOk w 5 CtlD.cells c → CtlsOk w c.l →
    Calls Tryz.prog 184 #[.slice c.A c.l.length c.c] w fun e w' => e = .returned (.int .i64 (nestM c.l : Int)) ∧ Below w.heap.size w w'
  | 0, _, _, h, _, _, _ => absurd h (Nat.not_lt_zero _)
  | m + 1, ⟨cl, cA, cc⟩, w, hm, hN, hc, hcs => by
    have IH := hi_ (rnesting_any m)
    have HC := hi_ hc
    have HCS := hi_ hcs
    have HM := hi_ hm
    have HN := hi_ hN
    have hlen := hc.1
    unfold maxLen at hlen
    simp only at hlen HCS HM HN
    clear hc hcs hm hN
    go_enter Tryz.func184, Tryz.ntmps184
    go_wp2
    go_loopw [3, 4] (fun nv iv wr => ∃ k n : Nat, k ≤ cl.length ∧ iv = .int .i64 k ∧ nv = .int .i64 n ∧ Hid (n = nestM (cl.take k)) ∧ Below w.heap.size w wr) (fun _ i _ => cl.length - (intOf i).toNat)
    case atStart => exact ⟨0, 0, Nat.zero_le _, rfl, rfl, hi_ rfl, Below.refl _ _⟩
    case round =>
      obtain ⟨k, n, hk, rfl, rfl, HG, HB⟩ := hrel
      by_cases hlt : k < cl.length
      · obtain ⟨g0, of0, hA, hall⟩ := CtlD.atA (HC.out.below HB (Nat.le_refl _)) hlt
        simp only at hA
        subst hA
        have HX : Hid (CtlOk w cl[k]) := hi_ (ctls_mem HCS.out (List.getElem_mem hlt))
        have hmem := nest_mem (List.getElem_mem hlt)
        have HS : Hid (nestM (cl.take (k + 1)) = max (nestM (cl.take k)) (max (nestM cl[k].th.l) (nestM cl[k].el.l) + 1)) := hi_ (by rw [take_snoc cl k hlt, nest_snoc])
        have HPn : Hid (nestM cl[k].th.l < m ∧ nestM cl[k].th.l ≤ 90000 ∧ nestM cl[k].el.l < m ∧ nestM cl[k].el.l ≤ 90000) := hi_ (by
          have := HM.out
          have := HN.out
          omega)
        clear hmem
        generalize cl[k] = x at *
        have hb3 : ∀ w', Below wr.heap.size wr w' → w'.cell? ⟨g0, of0 + k * 5 + 3, none⟩ = some (.slice x.th.A x.th.l.length x.th.c) ∧ w'.cell? ⟨g0, of0 + k * 5 + 4, none⟩ = some (.slice x.el.A x.el.l.length x.el.c) :=
          fun w' h => ⟨(hall w' h).2.2.2.1, (hall w' h).2.2.2.2⟩
        have HXt : Hid (LOk w 5 CtlD.cells x.th ∧ CtlsOk w x.th.l) := hi_ ⟨(ctl_parts HX.out).2.1, (ctl_parts HX.out).2.2.2.1⟩
        have HXe : Hid (LOk w 5 CtlD.cells x.el ∧ CtlsOk w x.el.l) := hi_ ⟨(ctl_parts HX.out).2.2.1, (ctl_parts HX.out).2.2.2.2⟩
        clear hall HX
        generalize x.th = xt at *
        generalize x.el = xe at *
        obtain ⟨tl, tA, tc⟩ := xt
        obtain ⟨el, eA, ec⟩ := xe
        simp only at hb3 HXt HXe HPn HS
        have HCt : Hid (∀ w', Below wr.heap.size wr w' → Calls Tryz.prog 184 #[.slice tA tl.length tc] w' fun e w2 => e = .returned (.int .i64 (nestM tl : Int)) ∧ Below w'.heap.size w' w2) :=
          hi_ (fun w' h => IH.out ⟨tl, tA, tc⟩ w' HPn.out.1 HPn.out.2.1 (HXt.out.1.below (below_step HB h) (Nat.le_refl _)) (CtlsOk.below (below_step HB h) HXt.out.2))
        have HCe : Hid (∀ w', Below wr.heap.size wr w' → Calls Tryz.prog 184 #[.slice eA el.length ec] w' fun e w2 => e = .returned (.int .i64 (nestM el : Int)) ∧ Below w'.heap.size w' w2) :=
          hi_ (fun w' h => IH.out ⟨el, eA, ec⟩ w' HPn.out.2.2.1 HPn.out.2.2.2 (HXe.out.1.below (below_step HB h) (Nat.le_refl _)) (CtlsOk.below (below_step HB h) HXe.out.2))
        have ht1 := HPn.out.2.1
        have ht2 := HPn.out.2.2.2
        generalize nestM tl = a at *
        generalize nestM el = b at *
        have H0 := hi_ (Below.refl wr.heap.size wr)
        have HBw := hi_ HB
        have hlt' : (k : Int) < (cl.length : Int) := by omega
        have hwa : IntKind.i64.wrap (1 + (a : Int)) = 1 + (a : Int) := IntWalk.i64_in _ (by omega)
        have hwb : IntKind.i64.wrap (1 + (b : Int)) = 1 + (b : Int) := IntWalk.i64_in _ (by omega)
        clear HB HXt HXe HPn
        go_wp2
        go_region_held3 (fun w' => Below wr.heap.size wr w') (first | exact H0.out | exact below_drew H0.out | (exact below_step (by assumption) (by assumption)) | assumption)
          (first | (go_at_call 184; with_reducible (refine (HCt.out _ (by assumption)).mono ?_); rintro e w1 ⟨rfl, hb1⟩)
                 | (go_at_call 184; with_reducible (refine (HCe.out _ (by assumption)).mono ?_); rintro e w1 ⟨rfl, hb1⟩))
        have HB5 : Hid (Below wr.heap.size wr _) := hi_ (by assumption)
        go_wp2
        go_roundw
        case rel => exact ⟨k + 1, max n (max a b + 1), by omega, by go_num, congrArg (Value.int .i64) (max3 n a b), hi_ (by rw [HS.out, ← HG.out]), below_step HBw.out HB5.out⟩
        case measure => simp [intOf]; omega
      · have e : k = cl.length := by omega
        have HR : Hid (n = nestM cl) := hi_ (by have := HG.out; rwa [e, List.take_length] at this)
        go_wp2
        go_ret
        exact ⟨by rw [HR.out]; rfl, HB⟩
theorem one_ctl : ∀ u, ∀ c ∈ CtlD.cells u, c.oneCell' = true := by
 intro u c hc
 simp [CtlD.cells] at hc; rcases hc with rfl | rfl | rfl | rfl | rfl <;> rfl
theorem row_slice {w : World} {B : Nat} {t : TypeId} {k : Nat} {v : Value} {n : Nat} {xs : List Value} (h : w.ownsRow B t k v n xs) : ∃ A c, v = .slice A n c := by
 rcases h.2 with ⟨hv, h0⟩ | ⟨g', cap, cur, hv, _, _, _⟩
 · exact ⟨none, 0, by rw [hv, h0]⟩
 · exact ⟨_, _, hv⟩
theorem rpre_any : ∀ (N : Nat) (c : L CtlD) (w : World), (presM c.l).length < N → (presM c.l).length ≤ 90000 → LOk w 5 CtlD.cells c → CtlsOk w c.l →
  Calls Tryz.prog 185 #[.slice c.A c.l.length c.c] w fun e w' => ∃ A cp, e = .returned (.slice A (presM c.l).length cp) ∧ w'.ownsRow w.heap.size 102 5 (.slice A (presM c.l).length cp) (presM c.l).length ((presM c.l).flatMap CtlD.cells) ∧ Below w.heap.size w w'
 | 0, _, _, h, _, _, _ => absurd h (Nat.not_lt_zero _)
 | m + 1, ⟨cl, cA, cc⟩, w, hm, hN, hc, hcs => by
  have IH := hi_ (rpre_any m)
  have HC := hi_ hc
  have HCS := hi_ hcs
  have HM := hi_ hm
  have HN := hi_ hN
  have hlen := hc.1
  unfold maxLen at hlen
  simp only at hlen HCS HM HN
  clear hc hcs hm hN
  obtain ⟨i0, hi, hz0, hz1, hz2⟩ := info_parts info_ctl
  go_enter Tryz.func185, Tryz.ntmps185
  go_wp2
  go_loopw [3, 4] (fun o iv wr => ∃ (k n : Nat) (A : Option Addr) (cp : Nat), k ≤ cl.length ∧ iv = .int .i64 k ∧ o = .slice A n cp ∧ n ≤ 90000 ∧ Hid (n = (presM (cl.take k)).length ∧ wr.ownsRow w.heap.size 102 5 (.slice A n cp) n ((presM (cl.take k)).flatMap CtlD.cells)) ∧ Below w.heap.size w wr) (fun _ i _ => cl.length - (intOf i).toNat)
  case atStart => exact ⟨0, 0, none, 0, Nat.zero_le _, rfl, rfl, Nat.zero_le _, hi_ ⟨rfl, World.ownsRow_nil _ _ _ _⟩, Below.refl _ _⟩
  case round =>
   obtain ⟨k, n, A, cp, hk, rfl, rfl, hn, HG, hbel⟩ := hrel
   by_cases hlt : k < cl.length
   ·
    obtain ⟨g0, of0, hA, hall⟩ := CtlD.atA HC.out hlt
    simp only at hA
    subst hA
    have HX : Hid (CtlOk w cl[k]) := hi_ (ctls_mem HCS.out (List.getElem_mem hlt))
    have HS : Hid (presM (cl.take (k + 1)) = presM (cl.take k) ++ cl[k] :: (presM cl[k].th.l ++ presM cl[k].el.l)) := hi_ (pres_take hlt)
    have HP := hi_ (pres_th (List.getElem_mem hlt))
    have HL : Hid ((presM (cl.take (k + 1))).length ≤ 90000) := hi_ (Nat.le_trans (pres_part cl (k + 1)) HN.out)
    generalize cl[k] = x at *
    have HXt : Hid (LOk w 5 CtlD.cells x.th ∧ CtlsOk w x.th.l) := hi_ ⟨(ctl_parts HX.out).2.1, (ctl_parts HX.out).2.2.2.1⟩
    have HXe : Hid (LOk w 5 CtlD.cells x.el ∧ CtlsOk w x.el.l) := hi_ ⟨(ctl_parts HX.out).2.2.1, (ctl_parts HX.out).2.2.2.2⟩
    have HPn : Hid ((presM x.th.l).length < m ∧ (presM x.th.l).length ≤ 90000 ∧ (presM x.el.l).length < m ∧ (presM x.el.l).length ≤ 90000) := hi_ (by
     have h1 := HP.out.1
     have h2 := HP.out.2.2.1
     have h3 := HM.out
     have h4 := HN.out
     omega)
    have HSn : Hid (n + 1 + (presM x.th.l).length + (presM x.el.l).length = (presM (cl.take (k + 1))).length) := hi_ (by
     rw [HS.out, HG.out.1, List.length_append, List.length_cons, List.length_append]; omega)
    have hsum : n + 1 + (presM x.th.l).length + (presM x.el.l).length ≤ 90000 := by have := HSn.out; have := HL.out; omega
    obtain ⟨kd, tb, cd, ⟨tl, tA, tc⟩, ⟨el, eA, ec⟩, hxe⟩ : ∃ (kd tb : Int) (cd : L NodeD) (t e : L CtlD), x = .mk kd tb cd t.l e.l t.A e.A t.c e.c := by
     cases x with | mk a b c d e f g h i => exact ⟨a, b, c, ⟨d, f, h⟩, ⟨e, g, i⟩, rfl⟩
    subst hxe
    simp only [CtlD.th, CtlD.el, CtlD.kind, CtlD.table, CtlD.cond] at HXt HXe HPn HSn hsum hall
    clear HX HP
    have hown1 := HG.out.2
    obtain ⟨d0, d1, d2, d3, d4⟩ := hall wr hbel
    go_wp2_with (first
     | (at_builtin; refine wpList_append_own_at _ rfl _ _ 28 rfl w.heap.size 102 i0 _ 5 88 Tryz.underlying28 hi hz0 hz1 hz2 rfl (by decide) _ _ _ rfl (hown1.alloc _) ⟨wr.heap.size, 0, none⟩ 1 1 [.int .i64 kd, .int .i64 tb, .slice cd.A cd.l.length cd.c, .slice tA tl.length tc, .slice eA el.length ec] rfl rfl ?g01 ?g02 ?g03 ?g04 ?g05 ?_))
    case g02 => exact ⟨rfl, rfl, rfl, rfl, rfl⟩
    case g03 => unfold maxLen; omega
    case g04 => omega
    case g05 => have := hbel.size; simp; omega
    intro v1 w1 hown2 hgrow _ _
    have hbel1 : Below w.heap.size w w1 := (hbel.alloc hbel.size _).grown hgrow (hbel.alloc hbel.size _).size fun j hj => (hown1.lt j hj).1
    obtain ⟨A1, c1, rfl⟩ := row_slice hown2
    have HO1 := hi_ hown2
    clear hown1 hown2 hgrow d0 d1 d2 d3 d4
    obtain ⟨_, _, _, d3, _⟩ := hall w1 hbel1
    go_wp2_with fail
    refine (IH.out ⟨tl, tA, tc⟩ w1 HPn.out.1 HPn.out.2.1 (HXt.out.1.below hbel1 (Nat.le_refl _)) (CtlsOk.below hbel1 HXt.out.2)).mono ?_
    rintro e w2 ⟨A2, c2, rfl, hown3, hb2⟩
    have hbel2 := hbel1.trans (hb2.mono hbel1.size)
    have HO2 := hi_ (own_below HO1.out hb2)
    obtain ⟨A2', c2', e2, _, HT2, hnil2, _⟩ := own_list (l := presM tl) (cells := CtlD.cells) (fun _ => rfl) hown3
    cases e2
    clear hown3 hb2 d3
    go_wp2_with (first
     | (at_builtin; refine wpList_append_L rfl _ _ 28 rfl w.heap.size 102 i0 _ 5 88 Tryz.underlying28 hi hz0 hz1 hz2 rfl (by decide) _ _ _ rfl HO2.out ⟨presM tl, A2, c2⟩ rfl HT2 hnil2 (fun _ => rfl) one_ctl ?g11 ?g12 ?g13 ?_))
    case g11 => unfold maxLen; omega
    case g12 => omega
    case g13 => exact hbel2.size
    intro v3 w3 hown4 hgrow
    have hbel3 : Below w.heap.size w w3 := hbel2.trans (grown_below HO2.out hgrow hbel2.size)
    obtain ⟨A3, c3, rfl⟩ := row_slice hown4
    have HO3 := hi_ hown4
    clear hown4 hgrow HO1 HO2 HT2 hnil2
    obtain ⟨_, _, _, _, d4⟩ := hall w3 hbel3
    go_wp2_with fail
    refine (IH.out ⟨el, eA, ec⟩ w3 HPn.out.2.2.1 HPn.out.2.2.2 (HXe.out.1.below hbel3 (Nat.le_refl _)) (CtlsOk.below hbel3 HXe.out.2)).mono ?_
    rintro e w4 ⟨A4, c4, rfl, hown5, hb4⟩
    have hbel4 := hbel3.trans (hb4.mono hbel3.size)
    have HO4 := hi_ (own_below HO3.out hb4)
    obtain ⟨A4', c4', e4, _, HT4, hnil4, _⟩ := own_list (l := presM el) (cells := CtlD.cells) (fun _ => rfl) hown5
    cases e4
    clear hown5 hb4 d4 HO3
    go_wp2_with (first
     | (at_builtin; refine wpList_append_L rfl _ _ 28 rfl w.heap.size 102 i0 _ 5 88 Tryz.underlying28 hi hz0 hz1 hz2 rfl (by decide) _ _ _ rfl HO4.out ⟨presM el, A4, c4⟩ rfl HT4 hnil4 (fun _ => rfl) one_ctl ?g21 ?g22 ?g23 ?_))
    case g21 => unfold maxLen; omega
    case g22 => omega
    case g23 => exact hbel4.size
    intro v5 w5 hown6 hgrow
    have hbel5 : Below w.heap.size w w5 := hbel4.trans (grown_below HO4.out hgrow hbel4.size)
    obtain ⟨A5, c5, rfl⟩ := row_slice hown6
    have HO5 : Hid (n + 1 + (presM tl).length + (presM el).length = (presM (cl.take (k + 1))).length ∧ w5.ownsRow w.heap.size 102 5 (.slice A5 (n + 1 + (presM tl).length + (presM el).length) c5) (n + 1 + (presM tl).length + (presM el).length) ((presM (cl.take (k + 1))).flatMap CtlD.cells)) := hi_ (by
     refine ⟨HSn.out, ?_⟩
     rw [HS.out, List.flatMap_append, List.flatMap_cons, List.flatMap_append]
     exact hown6)
    clear hown6 hgrow HO4 HT4 hnil4 HSn HS HL HG
    go_wp2
    go_roundw
    case rel => exact ⟨k + 1, n + 1 + (presM tl).length + (presM el).length, A5, c5, by omega, by go_num, rfl, hsum, HO5, hbel5⟩
    case measure => simp [intOf]; omega
   ·
    have e : k = cl.length := by omega
    have HR : Hid (n = (presM cl).length ∧ wr.ownsRow w.heap.size 102 5 (.slice A n cp) n ((presM cl).flatMap CtlD.cells)) := hi_ (by have := HG.out; rwa [e, List.take_length] at this)
    go_wp2
    go_ret
    have h1 := HR.out.1
    have h2 := HR.out.2
    subst h1
    exact ⟨A, cp, rfl, h2, hbel⟩
def wcell (p : ProgD) (k : KeyD) : Value := .int .i64 (widthAt p k.h k.f)
theorem twidths_any (p : ProgD) (i : Nat) (hi : i < p.tables.l.length) (w : World) (o : ProgOk w p) (hc : ∀ t ∈ p.tables.l, (Lit.int .i64 t.defA).wf = true) (hf : TabFine p p.tables.l[i]) :
  Calls Tryz.prog 167 #[.agg (progCells p), .int .i64 i] w fun e w' => ∃ A c, e = .returned (.slice A p.tables.l[i].keys.l.length c) ∧ w'.ownsRow w.heap.size 3 1 (.slice A p.tables.l[i].keys.l.length c) p.tables.l[i].keys.l.length (p.tables.l[i].keys.l.map (wcell p)) ∧ Below w.heap.size w w' := by
 have HO := hi_ o
 obtain ⟨W, hW, hw, HB, hp⟩ := box1 w (progCells p) 31
 have HW := hi_ hw
 have hvl := fun u (hb : Below W.heap.size W u) => tvalid_any p i hi u (o.below (below_step hw hb)) hc hf.ok
 have hwd := fun h f u (hb : Below W.heap.size W u) => pwidth_any p h f u (o.below (below_step hw hb))
 have HK := hi_ ((o.tab _ (List.getElem_mem hi)).below hw).keys
 obtain ⟨g, of, hA, hq⟩ := TabD.atA (o.tables.below hw (Nat.le_refl _)) hi
 have hn1 : (i : Int) < (p.tables.l.length : Int) := by omega
 have h6 := hf.keys
 clear o hw hc hf
 generalize p.tables.l[i] = t at *
 obtain ⟨tn, ⟨kl, kA, kc⟩, ta, td, tg, tz⟩ := t
 simp only at hq HK h6 ⊢
 simp only [progCells, hA] at hp hW hvl hwd ⊢
 have HVl := hi_ hvl
 have HWd := hi_ hwd
 clear hA hvl hwd
 obtain ⟨i0, hi, hz0, hz1, hz2⟩ := info_parts Tryz.infoInt
 go_enter Tryz.func167, Tryz.ntmps167
 go_upto_region 1 with fail
 rw [← hW]
 clear hW
 have hp3 := hp W HB
 go_wp2_with fail
 refine (HVl.out _ (by first | exact HB | exact ba1 HB | exact ba2 HB | exact ba3 HB)).mono ?_
 rintro e w1 ⟨rfl, hbN⟩
 replace HB := below_step (by first | exact HB | exact ba1 HB | exact ba2 HB | exact ba3 HB) hbN
 clear hbN
 clear hp3
 have hp3 := hp _ HB
 have hq3 := hq _ HB
 have HB1 := hi_ HB
 go_wp2
 clear HB hp3 hq3
 go_loopw [5, 7, 19] (fun ov _ iv wr => ∃ (k : Nat) (A : Option Addr) (c : Nat), k ≤ kl.length ∧ iv = .int .i64 k ∧ ov = .slice A k c ∧ Hid (wr.ownsRow W.heap.size 3 1 (.slice A k c) k ((kl.take k).map (wcell p))) ∧ Below W.heap.size W wr)
  (fun _ _ i _ => kl.length - (intOf i).toNat)
 case atStart => exact ⟨0, none, 0, Nat.zero_le _, rfl, rfl, hi_ (World.ownsRow_nil _ _ _ _), HB1.out⟩
 case round =>
  obtain ⟨k, A, c, hk, rfl, rfl, HOw, HB⟩ := hrel
  by_cases hlt : k < kl.length
  ·
   obtain ⟨g2, of2, hA2, d0, d1, d2⟩ := KeyD.at (HK.out.below HB (Nat.le_refl _)) hlt
   have HT : Hid ((kl.take (k + 1)).map (wcell p) = (kl.take k).map (wcell p) ++ [.int .i64 (widthAt p kl[k].h kl[k].f)]) := hi_ (by rw [take_snoc kl k hlt, List.map_append]; rfl)
   simp only at hA2 d0 d1 d2
   subst hA2
   generalize kl[k] = y at *
   obtain ⟨yh, yf, yk⟩ := y
   simp only at d0 d1 d2 HT
   have hp1 := hp wr HB
   have hca := @World.cell?_alloc_some
   have HBE := hi_ HB
   clear HB
   go_wp2_with fail
   refine (HWd.out yh yf _ (below_alloc HBE.out _)).mono ?_
   clear d0 d1 d2 hp1 hca
   rintro e w2 ⟨rfl, hb2⟩
   have hbel2 := below_step (below_alloc HBE.out _) hb2
   have hown2 := own_below HOw.out (below_step (below1 wr _) hb2)
   have hw2 := hbel2.size
   generalize widthAt p yh yf = wd at *
   clear hb2
   go_wp2_with (first
    | (at_builtin; refine wpList_append_own _ rfl _ _ 29 rfl W.heap.size 3 i0 _ 1 8 Tryz.underlying29 hi hz0 hz1 hz2 rfl (by decide) _ _ _ rfl (hown2.alloc _) ⟨w2.heap.size, 0, none⟩ 1 1 [.int .i64 wd] rfl rfl ?c1 ?c2 ?c3 ?c4 ?c5 ?_))
   case c1 => exact one_intw _ _ _
   case c2 => intro u hu; simp at hu; subst hu; rfl
   case c3 => unfold maxLen; omega
   case c4 => omega
   case c5 => simp; omega
   intro v' w3 hown3 hgrow _
   have hbw : Below W.heap.size W w3 := (below_alloc hbel2 _).grown hgrow (below_alloc hbel2 _).size fun j hj => (hown2.lt j hj).1
   obtain ⟨A', c', rfl⟩ := row_slice hown3
   have HO3 : Hid (w3.ownsRow W.heap.size 3 1 (.slice A' (k + 1) c') (k + 1) ((kl.take (k + 1)).map (wcell p))) := hi_ (by rw [HT.out, List.map_take]; exact hown3)
   clear hown3 hgrow hown2 HOw HT
   go_wp2
   go_roundw
   case rel => exact ⟨k + 1, A', c', by omega, by go_num, rfl, HO3, hbw⟩
   case measure => simp [intOf]; omega
  ·
   have e : k = kl.length := by omega
   have HO1 : Hid (wr.ownsRow W.heap.size 3 1 (.slice A kl.length c) kl.length (kl.map (wcell p))) := hi_ (by have := HOw.out; rwa [e, List.take_length] at this)
   clear HOw
   subst e
   go_wp2
   go_ret
   exact ⟨A, c, rfl, own_weaken HW.out.size HO1.out, below_step HW.out HB⟩
theorem tab_widths {p : ProgD} {t : TabD} (h3 : (tabM p t).2 = 0) : ∀ x ∈ t.keys.l, okW (widthAt p x.h x.f) = true := by
 unfold tabM at h3
 split at h3
 · cases h3
 split at h3
 · cases h3
 split at h3
 · cases h3
 split at h3
 ·
  rename_i h7
  exact absurd h3 h7
 rename_i h7
 have h7' : (keysM p t.keys.l).2 = 0 := Classical.byContradiction h7
 intro x hx
 obtain ⟨j, hj, rfl⟩ := List.mem_iff_getElem.1 hx
 unfold keysM at h7'
 rcases hfe : firstE t.keys.l.length (keyAtM p t.keys.l) with _ | r
 ·
  have h9 := firstE_inv hfe j hj
  rw [keyAtM_at p _ j hj] at h9
  split at h9
  · cases h9
  rename_i h10
  unfold widthAt at h10 ⊢
  split
  · assumption
  ·
   rename_i h11
   rw [if_neg h11] at h10
   exact absurd rfl h10
 ·
  exfalso
  rw [hfe] at h7'
  obtain ⟨i, hi, h9, _⟩ := firstE_ex hfe
  rw [keyAtM_at p _ i hi] at h9
  split at h9
  · cases h9; cases h7'
  split at h9
  · cases h9; cases h7'
  cases h9
theorem keyErr_at (p : ProgD) (ks : List KmD) (l : List KeyD) (i : Nat) (h1 : i < ks.length) (h2 : i < l.length) :
  keyErrM p ks l i = if keyChkM ks[i] l[i].kind (widthAt p l[i].h l[i].f) ≠ 0 then some (keyChkM ks[i] l[i].kind (widthAt p l[i].h l[i].f)) else none := by
 rw [keyErrM, List.getElem?_eq_getElem h1, List.getElem?_eq_getElem h2]
theorem KmD.atA {w : World} {x : L KmD} (h : LOk w 2 KmD.cells x) {i : Nat} (hi : i < x.l.length) :
  ∃ g o, x.A = some ⟨g, o, none⟩ ∧ ∀ w', Below w.heap.size w w' → w'.cell? ⟨g, o + i * 2, none⟩ = some (.int .u32 x.l[i].v) ∧ w'.cell? ⟨g, o + i * 2 + 1, none⟩ = some (.int .u32 x.l[i].m) := by
 obtain ⟨g, o, e, _, hc⟩ := h.at hi
 exact ⟨g, o, e, fun w' hb => ⟨below_cell hb (hc 0 (by omega)), below_cell hb (hc 1 (by omega))⟩⟩
theorem wcell_flat (p : ProgD) : ∀ (kl : List KeyD), kl.map (wcell p) = (kl.map fun k => widthAt p k.h k.f).flatMap icell
 | [] => rfl
 | a :: l => by rw [List.map_cons, List.map_cons, List.flatMap_cons, ← wcell_flat p l]; rfl
theorem widths_lok {p : ProgD} {kl : List KeyD} {w : World} {B : Nat} {A : Option Addr} {c : Nat} (h : w.ownsRow B 3 1 (.slice A kl.length c) kl.length (kl.map (wcell p))) : LOk w 1 icell ⟨kl.map (fun k => widthAt p k.h k.f), A, c⟩ := by
 have e2 : kl.length = (kl.map fun k => widthAt p k.h k.f).length := by rw [List.length_map]
 rw [wcell_flat, e2] at h
 obtain ⟨A', c', e3, _, h2, _⟩ := own_list (cells := icell) (fun _ => rfl) h
 rw [Value.slice.injEq] at e3
 obtain ⟨rfl, _, rfl⟩ := e3
 exact h2
@[reducible] def entCells (x : L KmD) (prio a : Int) (y : L Int) : Array Value := #[.slice x.A x.l.length x.c, .int .i64 prio, .int .i64 a, .slice y.A y.l.length y.c]
theorem ret_iO {a b : Int} (h : a = b) : Ending.returned (.int .i64 b) = .returned (.int .i64 a) := by rw [h]
theorem entCheck_any (p : ProgD) (i : Nat) (hi : i < p.tables.l.length) (x : L KmD) (prio a : Int) (y : L Int) (w : World) (o : ProgOk w p) (hc : ∀ t ∈ p.tables.l, (Lit.int .i64 t.defA).wf = true) (hf : TabFine p p.tables.l[i])
  (hx : LOk w 2 KmD.cells x) (hk : ∀ k ∈ x.l, (Lit.int .u32 k.v).wf = true ∧ (Lit.int .u32 k.m).wf = true) (hy : LOk w 1 ucell y) :
  Calls Tryz.prog 102 #[.agg (progCells p), .int .i64 i, .agg (entCells x prio a y)] w fun e w' => e = .returned (.int .i64 (entM p p.tables.l[i] x.l prio a y.l)) ∧ Below w.heap.size w w' := by
 obtain ⟨W, hW, hw, HB, hp⟩ := box2 w (progCells p) 31 (entCells x prio a y) 37
 have HW := hi_ hw
 have htc := fun u (hb : Below W.heap.size W u) => tableCheck_any p i hi u (o.below (below_step hw hb)) hc
 have htw := fun u (hb : Below W.heap.size W u) => twidths_any p i hi u (o.below (below_step hw hb)) hc hf
 have htk := fun u (hb : Below W.heap.size W u) => tkind_any p i hi u (o.below (below_step hw hb)) hc hf
 have hta := fun u (hb : Below W.heap.size W u) => tallows_any p i hi a u (o.below (below_step hw hb)) hc hf
 have hcc := fun u (hb : Below W.heap.size W u) => checkCall_any p a y u (o.below (below_step hw hb)) (hy.below (below_step hw hb) (Nat.le_refl _))
 have HK := hi_ ((o.tab _ (List.getElem_mem hi)).below hw).keys
 have HX := hi_ (hx.below hw (Nat.le_refl _))
 have HKW := hi_ hk
 obtain ⟨g, of, hA, hq⟩ := TabD.atA (o.tables.below hw (Nat.le_refl _)) hi
 have hn1 : (i : Int) < (p.tables.l.length : Int) := by omega
 have h6 := hf.keys
 have HWd := hi_ (tab_widths hf.ok)
 have hok := hf.ok
 clear o hw hc hf hx hk hy
 generalize p.tables.l[i] = t at *
 rw [hok] at htc
 generalize (tabM p t).1 = tz at *
 obtain ⟨tn, ⟨kl, kA, kc⟩, ta, td, tg, ts⟩ := t
 obtain ⟨xl, xA, xc⟩ := x
 simp only at hq HK HX HKW HWd h6 htw htk hta htc hp ⊢
 have HR := hi_ (entM.eq_1 p ⟨tn, ⟨kl, kA, kc⟩, ta, td, tg, ts⟩ xl prio a y.l)
 have HRm := hi_ (mayM.eq_1 p ⟨tn, ⟨kl, kA, kc⟩, ta, td, tg, ts⟩ a y.l)
 generalize mayM p ⟨tn, ⟨kl, kA, kc⟩, ta, td, tg, ts⟩ a y.l = mm at *
 simp only [progCells, entCells, hA] at hp hW htc htw htk hta hcc HR HRm ⊢
 generalize entM p ⟨tn, ⟨kl, kA, kc⟩, ta, td, tg, ts⟩ xl prio a y.l = R at *
 have HTc := hi_ htc
 have HTw := hi_ htw
 have HTk := hi_ htk
 have HTa := hi_ hta
 have HCc := hi_ hcc
 have hmx : xl.length ≤ 9223372036854775807 := HX.out.1
 clear hA htc htw htk hta hcc hok
 go_enter Tryz.func102, Tryz.ntmps102
 go_upto_region 1 with fail
 rw [← hW]
 clear hW
 have hp3 := (hp W HB).1
 have hp4 := (hp W HB).2
 go_wp2_with fail
 refine (HTc.out _ (by first | exact HB | exact ba1 HB | exact ba2 HB | exact ba3 HB)).mono ?_
 rintro e w1 ⟨rfl, hbN⟩
 replace HB := below_step (by first | exact HB | exact ba1 HB | exact ba2 HB | exact ba3 HB) hbN
 clear hbN
 clear hp3 hp4
 have hp3 := (hp _ HB).1
 have hq3 := hq _ HB
 go_upto_region 4 with fail
 have H0 := hi_ HB
 clear hp3 hq3 HB
 have hp5 := fun w' (h : Below W.heap.size W w') => (hp w' h).1
 go_cut [9, 10] from 23 to 32 (fun v9 v10 wr => ∃ wA wc, v9 = .slice kA kl.length kc ∧ v10 = .slice wA kl.length wc ∧ Hid (LOk wr 1 icell ⟨kl.map (fun k => widthAt p k.h k.f), wA, wc⟩) ∧ Hid (Below W.heap.size W wr))
 case first =>
  go_region_held3 (fun w' => Below W.heap.size W w') (first | exact H0.out | exact below_drew H0.out | (exact below_step (by assumption) (by assumption)) | assumption)
   (first | (go_at_call 167; refine (HTw.out _ (by assumption)).mono ?_; rintro e w2 ⟨wA, wc, rfl, hown, hb1⟩))
  all_goals
   have HB5 : Hid (Below W.heap.size W _) := hi_ (by assumption)
   have HWl := hi_ (widths_lok hown)
   clear hown
   go_wp2
   go_meet
   case rel => exact ⟨_, _, rfl, rfl, HWl, HB5⟩
 case rest =>
 obtain ⟨wA, wcp, rfl, rfl, HWl0, HB5⟩ := hcut
 obtain ⟨WL, hWL⟩ : ∃ WL : List Int, WL = kl.map fun k => widthAt p k.h k.f := ⟨_, rfl⟩
 have HWl : Hid (LOk wc 1 icell ⟨WL, wA, wcp⟩) := hi_ (by rw [hWL]; exact HWl0.out)
 have HWe := hi_ hWL
 clear hWL HTw H0 HWl0
 have hp3 := (hp wc HB5.out).2
 by_cases hlen : xl.length = kl.length
 case neg =>
  have hl' : ((xl.length : Int) != (kl.length : Int)) = true := bne_iff_ne.2 (by omega)
  replace HR := tr_ HR (if_pos hlen)
  clear hlen
  go_wp2
  go_ret
  exact ⟨ret_iO HR.out, below_step HW.out HB5.out⟩
 have hl' : ((kl.length : Int)) = (xl.length : Int) := by omega
 replace HR := tr_ HR (if_neg (fun h => h hlen))
 have HL := hi_ hlen
 clear hlen
 go_wp2
 clear hp3
 go_loopw [11, 12, 13, 41] (fun _ _ _ iv wr => ∃ k : Nat, k ≤ xl.length ∧ iv = .int .i64 k ∧ Hid (∀ j, j < k → keyErrM p xl kl j = none) ∧ Below W.heap.size W wr ∧ Hid (Below wc.heap.size wc wr)) (fun _ _ _ i _ => xl.length - (intOf i).toNat)
 case atStart => exact ⟨0, Nat.zero_le _, rfl, hi_ (fun j h => absurd h (Nat.not_lt_zero _)), HB5.out, hi_ (Below.refl _ _)⟩
 case round =>
  obtain ⟨k, hk, rfl, HPre, HB, HB2⟩ := hrel
  by_cases hlt : k < xl.length
  ·
   have hlk : k < kl.length := by have := HL.out; omega
   have hlw : k < WL.length := by have := HWe.out; rw [this, List.length_map]; exact hlk
   obtain ⟨gx, ox, hxA, hd⟩ := KmD.atA HX.out hlt
   obtain ⟨gk, okk, hkA, hkd⟩ := KeyD.atA HK.out hlk
   obtain ⟨gw, ow, hwA, hwd⟩ := icell_atA HWl.out hlw
   have HE := hi_ (keyErr_at p xl kl k hlt hlk)
   have HV := hi_ (HKW.out _ (List.getElem_mem hlt))
   have HWk := hi_ (HWd.out _ (List.getElem_mem hlk))
   have HWv : Hid (WL[k] = widthAt p kl[k].h kl[k].f) := hi_ (by
    have e : WL[k]? = (kl.map fun k => widthAt p k.h k.f)[k]? := by rw [HWe.out]
    rw [List.getElem?_eq_getElem hlw, List.getElem?_map, List.getElem?_eq_getElem hlk] at e
    simpa using e)
   simp only at hxA hkA hwA hd hkd hwd
   subst hxA hkA hwA
   rw [HWv.out] at hwd
   have hd0 := hd wr HB
   generalize xl[k] = x at *
   generalize kl[k] = y at *
   generalize widthAt p y.h y.f = wd at *
   have HC := hi_ (fun u => checkKey_any x y.kind wd u HWk.out HV.out.1 HV.out.2)
   generalize keyChkM x y.kind wd = ch at *
   obtain ⟨xv, xm⟩ := x
   obtain ⟨yh, yf, yk⟩ := y
   simp only at hd hkd HC hd0
   have HKs : Hid (∀ u, Below wr.heap.size wr u → u.cell? ⟨gk, okk + k * 3 + 2, none⟩ = some (.int .i64 yk) ∧ u.cell? ⟨gw, ow + k, none⟩ = some (.int .i64 wd)) := hi_ (fun u h => ⟨(hkd u (below_step HB h)).2.2, hwd u (below_step HB2.out h)⟩)
   clear hd hkd hwd HV HWk HWv
   obtain ⟨Y, hY⟩ : ∃ Y, Y = wr.alloc (.cells #[.int .u32 xv, .int .u32 xm] 68) := ⟨_, rfl⟩
   have HYB : Hid (Blk Y wr.heap.size 68 #[.int .u32 xv, .int .u32 xm]) := hi_ (by rw [hY]; exact Blk.new _ _ _)
   have HBY : Hid (Below wr.heap.size wr Y) := hi_ (by rw [hY]; exact below1 _ _)
   have hlwZ : (k : Int) < (kl.length : Int) := by omega
   have HBr := hi_ HB
   clear HB
   go_upto_region 10 with fail
   rw [← hY]
   clear hY hd0
   have H0 := hi_ (Below.refl Y.heap.size Y)
   have k0 := fun u (h : Below Y.heap.size Y u) => (HYB.out.below h HYB.out.lt).cell 0
   have k1 := fun u (h : Below Y.heap.size Y u) => (HYB.out.below h HYB.out.lt).cell 1
   have k2 := fun u (h : Below Y.heap.size Y u) => (HKs.out u (below_step HBY.out h)).1
   have k3 := fun u (h : Below Y.heap.size Y u) => (HKs.out u (below_step HBY.out h)).2
   go_region_held3 (fun w' => Below Y.heap.size Y w') (first | exact H0.out | exact below_drew H0.out | (exact below_step (by assumption) (by assumption)) | assumption)
    (first | (go_at_call 168; refine (HC.out _).mono ?_; rintro e w3 ⟨rfl, hb3⟩))
   have HB3 : Hid (Below Y.heap.size Y w3) := hi_ (by assumption)
   clear k0 k1 k2 k3
   by_cases hz : ch = 0
   ·
    have HP2 := hi_ (firstE_step HPre.out (HE.out.trans (if_neg (fun h => h hz))))
    subst hz
    clear HE
    go_wp2
    go_roundw
    case rel => exact ⟨k + 1, by omega, by go_num, HP2, below_step HBr.out (below_step HBY.out HB3.out), hi_ (below_step HB2.out (below_step HBY.out HB3.out))⟩
    case measure => simp [intOf]; omega
   ·
    have hz' : (ch != 0) = true := bne_iff_ne.2 hz
    have HR2 : Hid (R = ch) := hi_ (by rw [HR.out, firstE_some hlk HPre.out (HE.out.trans (if_pos hz))])
    clear hz HE
    go_wp2
    go_ret
    exact ⟨ret_iO HR2.out, below_step HW.out (below_step HBr.out (below_step HBY.out HB3.out))⟩
  ·
   have e : k = kl.length := by have := HL.out; omega
   rw [e] at HPre
   have HR2 := HR.out
   rw [firstE_none HPre.out] at HR2
   replace HR := hi_ HR2
   clear HR2
   simp only at HR
   have HBr := hi_ HB
   have hp3 := (hp wr HB).1
   have hp4 := (hp wr HB).2
   clear e
   by_cases hp0 : prio < 0
   ·
    replace HR := tr_ HR (if_pos (.inl hp0))
    have e0 : decide (prio < 0) = true := decide_eq_true hp0
    go_wp2
    go_ret
    exact ⟨ret_iO HR.out, below_step HW.out HBr.out⟩
   have e0 : decide (prio < 0) = false := decide_eq_false hp0
   by_cases hp1 : 255 < prio
   ·
    replace HR := tr_ HR (if_pos (.inr hp1))
    have e1 : decide (255 < prio) = true := decide_eq_true hp1
    go_wp2
    go_ret
    exact ⟨ret_iO HR.out, below_step HW.out HBr.out⟩
   have e1 : decide (255 < prio) = false := decide_eq_false hp1
   replace HR := tr_ HR (if_neg (by rintro (h | h); exact hp0 h; exact hp1 h))
   by_cases hz : prio = 0
   ·
    have hz' : (prio != 0) = false := by rw [hz]; rfl
    replace HR := tr_ HR (if_neg (fun h => h.1 hz))
    clear hp0 hp1 hz
    by_cases ha : a ∈ ta.l
    ·
     rw [decide_eq_true ha] at HTa
     have HR2 := hi_ (HR.out.trans (HRm.out.trans (if_pos ha)))
     clear ha HR HRm
     generalize callM p a y.l = cm at *
     go_wp2_with fail
     refine (HTa.out _ (by first | exact HB | exact ba1 HB | exact ba2 HB | exact ba3 HB)).mono ?_
     rintro e w5 ⟨rfl, hbN⟩
     replace HB := below_step (by first | exact HB | exact ba1 HB | exact ba2 HB | exact ba3 HB) hbN
     clear hbN
     clear hp3 hp4
     have hp3 := (hp _ HB).1
     have hp4 := (hp _ HB).2
     go_wp2_with fail
     refine (HCc.out _ (by first | exact HB | exact ba1 HB | exact ba2 HB | exact ba3 HB)).mono ?_
     rintro e w6 ⟨rfl, hbN⟩
     replace HB := below_step (by first | exact HB | exact ba1 HB | exact ba2 HB | exact ba3 HB) hbN
     clear hbN
     go_wp2
     go_ret
     exact ⟨ret_iO HR2.out, below_step HW.out HB⟩
    ·
     rw [decide_eq_false ha] at HTa
     have HR2 := hi_ (HR.out.trans (HRm.out.trans (if_neg ha)))
     clear ha HR HRm
     go_wp2_with fail
     refine (HTa.out _ (by first | exact HB | exact ba1 HB | exact ba2 HB | exact ba3 HB)).mono ?_
     rintro e w5 ⟨rfl, hbN⟩
     replace HB := below_step (by first | exact HB | exact ba1 HB | exact ba2 HB | exact ba3 HB) hbN
     clear hbN
     go_wp2
     go_ret
     exact ⟨ret_iO HR2.out, below_step HW.out HB⟩
   have hz' : (prio != 0) = true := bne_iff_ne.2 hz
   by_cases hk3 : kindT kl = 3
   ·
    replace HR := tr_ HR (if_neg (fun h => h.2 hk3))
    rw [hk3] at HTk
    clear hp0 hp1 hz hk3
    go_wp2_with fail
    refine (HTk.out _ (by first | exact HB | exact ba1 HB | exact ba2 HB | exact ba3 HB)).mono ?_
    rintro e w4 ⟨rfl, hbN⟩
    replace HB := below_step (by first | exact HB | exact ba1 HB | exact ba2 HB | exact ba3 HB) hbN
    clear hbN
    clear hp3 hp4
    have hp3 := (hp _ HB).1
    have hp4 := (hp _ HB).2
    by_cases ha : a ∈ ta.l
    ·
     rw [decide_eq_true ha] at HTa
     have HR2 := hi_ (HR.out.trans (HRm.out.trans (if_pos ha)))
     clear ha HR HRm
     generalize callM p a y.l = cm at *
     go_wp2_with fail
     refine (HTa.out _ (by first | exact HB | exact ba1 HB | exact ba2 HB | exact ba3 HB)).mono ?_
     rintro e w5 ⟨rfl, hbN⟩
     replace HB := below_step (by first | exact HB | exact ba1 HB | exact ba2 HB | exact ba3 HB) hbN
     clear hbN
     clear hp3 hp4
     have hp3 := (hp _ HB).1
     have hp4 := (hp _ HB).2
     go_wp2_with fail
     refine (HCc.out _ (by first | exact HB | exact ba1 HB | exact ba2 HB | exact ba3 HB)).mono ?_
     rintro e w6 ⟨rfl, hbN⟩
     replace HB := below_step (by first | exact HB | exact ba1 HB | exact ba2 HB | exact ba3 HB) hbN
     clear hbN
     go_wp2
     go_ret
     exact ⟨ret_iO HR2.out, below_step HW.out HB⟩
    ·
     rw [decide_eq_false ha] at HTa
     have HR2 := hi_ (HR.out.trans (HRm.out.trans (if_neg ha)))
     clear ha HR HRm
     go_wp2_with fail
     refine (HTa.out _ (by first | exact HB | exact ba1 HB | exact ba2 HB | exact ba3 HB)).mono ?_
     rintro e w5 ⟨rfl, hbN⟩
     replace HB := below_step (by first | exact HB | exact ba1 HB | exact ba2 HB | exact ba3 HB) hbN
     clear hbN
     go_wp2
     go_ret
     exact ⟨ret_iO HR2.out, below_step HW.out HB⟩
   ·
    replace HR := hi_ (HR.out.trans (if_pos ⟨hz, hk3⟩))
    have hk3' : (kindT kl != 3) = true := bne_iff_ne.2 hk3
    generalize kindT kl = kt at *
    clear hp0 hp1 hz hk3
    go_wp2_with fail
    refine (HTk.out _ (by first | exact HB | exact ba1 HB | exact ba2 HB | exact ba3 HB)).mono ?_
    rintro e w4 ⟨rfl, hbN⟩
    replace HB := below_step (by first | exact HB | exact ba1 HB | exact ba2 HB | exact ba3 HB) hbN
    clear hbN
    go_wp2
    go_ret
    exact ⟨ret_iO HR.out, below_step HW.out HB⟩
theorem flipO {P : Program} {f : FuncId} {args : Array Value} {w : World} {v : Value} (h : Calls P f args w fun e w' => e = .returned v ∧ w = w') : Calls P f args w fun e w' => e = .returned v ∧ w' = w := h.mono fun _ _ ⟨a, b⟩ => ⟨a, b.symm⟩
theorem rcheckKey_any (k : KmD) (kind wd : Int) (w : World) (hw : okW wd = true) (hv : (Lit.int .u32 k.v).wf = true) (hm : (Lit.int .u32 k.m).wf = true) :
  Calls Tryz.prog 120 #[.agg (kmCells k), .int .i64 wd, .int .i64 kind] w fun e w' => e = .returned (.int .i64 (keyChkM k kind wd)) ∧ Below w.heap.size w w' := by
 have HR := hi_ (keyChkM.eq_1 k kind wd)
 obtain ⟨v, m⟩ := k
 have hz := and_within hv hm
 obtain ⟨n, rfl, hn, hn1⟩ := width_nat hw
 have HP := hi_ (fun u => rplen_any m n hn hn1 u)
 have HF1 := hi_ (fun u => rfits_any v n hv u)
 have HF2 := hi_ (fun u => rfits_any m n hm u)
 have HMk := hi_ (fun u => flipO (rmask_any (n : Int) u))
 clear hv hm
 simp only at HR hz
 generalize prefixM m n = pr at *
 generalize ((maskM (n : Int) : Nat) : Int) = mk at *
 obtain ⟨W, hW, hw1, HB, hp⟩ := box1 w (kmCells ⟨v, m⟩) 68
 have HW := hi_ hw1
 clear hw1 hw
 go_enter Tryz.func120, Tryz.ntmps120
 go_upto_region 1 with fail
 rw [← hW]
 clear hW
 have hp3 := hp W HB
 go_wp2_with fail
 refine (HP.out _).mono ?_
 rintro e w1 ⟨⟨z, rfl⟩, rfl⟩
 cases h1 : fitsM v n
 ·
  replace HR := tr_ HR (if_pos (.inl h1))
  rw [h1] at HF1
  go_wp2_with fail
  refine (HF1.out _).mono ?_
  rintro e w2 ⟨rfl, rfl⟩
  go_wp2
  go_ret
  exact ⟨by rw [HR.out]; rfl, below_step HW.out HB⟩
 rw [h1] at HF1
 cases h2 : fitsM m n
 ·
  replace HR := tr_ HR (if_pos (.inr h2))
  rw [h2] at HF2
  go_wp2_with fail
  refine (HF1.out _).mono ?_
  rintro e w2 ⟨rfl, rfl⟩
  go_wp2_with fail
  refine (HF2.out _).mono ?_
  rintro e w3 ⟨rfl, rfl⟩
  go_wp2
  go_ret
  exact ⟨by rw [HR.out]; rfl, below_step HW.out HB⟩
 rw [h2] at HF2
 replace HR := tr_ HR (if_neg (by rw [h1, h2]; simp))
 go_wp2_with fail
 refine (HF1.out _).mono ?_
 rintro e w2 ⟨rfl, rfl⟩
 go_wp2_with fail
 refine (HF2.out _).mono ?_
 rintro e w3 ⟨rfl, rfl⟩
 cases h3 : within v m
 ·
  replace HR := tr_ HR (if_pos h3)
  rw [h3] at hz
  have hz2 : (bits BinOp.and IntKind.u32 v m != v) = true := by rw [bne, hz]; rfl
  go_wp2
  go_ret
  exact ⟨by rw [HR.out]; rfl, below_step HW.out HB⟩
 replace HR := tr_ HR (if_neg (by rw [h3]; simp))
 rw [h3] at hz
 have hz2 : (bits BinOp.and IntKind.u32 v m != v) = false := by rw [bne, hz]; rfl
 have HB0 := hi_ HB
 by_cases hk1 : kind = 1
 ·
  subst hk1
  by_cases he : m = mk
  ·
   have hb : (m != mk) = false := by rw [he]; simp
   replace HR := hi_ (HR.out.trans ((if_neg (by rw [he]; simp)).trans (if_neg (by rintro ⟨h, _⟩; exact absurd h (by decide)))))
   clear he
   go_upto_region 6 with fail
   go_quiet (first | (go_at_call 189; exact Calls.quiet_of_same (HMk.out _)))
   go_wp2
   go_ret
   exact ⟨by rw [HR.out]; rfl, below_step HW.out (below_drewN HB0.out _)⟩
  ·
   have hb : (m != mk) = true := by simpa using he
   replace HR := hi_ (HR.out.trans (if_pos ⟨by first | rfl | trivial, he⟩))
   go_upto_region 6 with fail
   go_quiet (first | (go_at_call 189; exact Calls.quiet_of_same (HMk.out _)))
   go_wp2
   go_ret
   exact ⟨by rw [HR.out]; rfl, below_step HW.out (below_drewN HB0.out _)⟩
 ·
  have hk1b : (kind == 1) = false := by simpa using hk1
  replace HR := tr_ HR (if_neg (by rintro ⟨h, _⟩; exact hk1 h))
  by_cases hk2 : kind = 2
  ·
   subst hk2
   cases pr with
   | true =>
    replace HR := tr_ HR (if_neg (by rintro ⟨_, h⟩; cases h))
    go_upto_region 6 with fail
    go_quiet (fail)
    go_wp2
    go_ret
    exact ⟨by rw [HR.out]; rfl, below_step HW.out (below_drewN HB0.out _)⟩
   | false =>
    replace HR := hi_ (HR.out.trans (if_pos ⟨by first | rfl | trivial, rfl⟩))
    go_upto_region 6 with fail
    go_quiet (fail)
    go_wp2
    go_ret
    exact ⟨by rw [HR.out]; rfl, below_step HW.out (below_drewN HB0.out _)⟩
  ·
   have hk2b : (kind == 2) = false := by simpa using hk2
   replace HR := tr_ HR (if_neg (by rintro ⟨h, _⟩; exact hk2 h))
   go_upto_region 6 with fail
   go_quiet (fail)
   go_wp2
   go_ret
   exact ⟨by rw [HR.out]; rfl, below_step HW.out (below_drewN HB0.out _)⟩
theorem rvalid17_any (p : ProgD) (i : Nat) (hi : i < p.tables.l.length) (w : World) (o : ProgOk w p) (hc : ∀ t ∈ p.tables.l, ∀ v ∈ t.args.l, (Lit.int .u32 v).wf = true) (hv : (tabM p p.tables.l[i]).2 = 0) :
  Calls Tryz.prog 122 #[.agg (progCells p), .int .i64 i] w fun e w' => e = .returned (.bool true) ∧ Below w.heap.size w w' := by
 have HO := hi_ o
 have HC := hi_ hc
 obtain ⟨W, hW, hw, HB, hp⟩ := box1 w (progCells p) 31
 have HW := hi_ hw
 have HT := hi_ (fun u (hb : Below W.heap.size W u) => rtableCheck_any p i hi u (HO.out.below (below_step HW.out hb)) HC.out)
 clear o hw hc
 rw [hv] at HT
 clear hv
 go_enter Tryz.func122, Tryz.ntmps122
 go_upto_region 1 with fail
 rw [← hW]
 clear hW
 have hp3 := hp W HB
 go_wp2_with fail
 refine (HT.out _ (by first | exact HB | exact ba1 HB | exact ba2 HB | exact ba3 HB)).mono ?_
 rintro e w1 ⟨rfl, hbN⟩
 replace HB := below_step (by first | exact HB | exact ba1 HB | exact ba2 HB | exact ba3 HB) hbN
 clear hbN
 go_wp2
 go_ret
 exact ⟨rfl, below_step HW.out HB⟩
def kmaxT (l : List KeyD) : Int := l.foldl (fun m k => max m k.kind) 1
theorem kmax_snoc (l : List KeyD) (k : KeyD) : kmaxT (l ++ [k]) = max (kmaxT l) k.kind := by rw [kmaxT, List.foldl_append]; rfl
theorem kmax_fold : ∀ (l : List KeyD) (m : Int), (∀ k ∈ l, k.kind = 1 ∨ k.kind = 2 ∨ k.kind = 3) → m = 1 ∨ m = 2 ∨ m = 3 →
  l.foldl (fun m k => max m k.kind) m = if l.any (fun k => decide (k.kind = 3)) = true ∨ m = 3 then 3 else if l.any (fun k => decide (k.kind = 2)) = true ∨ m = 2 then 2 else 1
 | [], m, _, hm => by
  rcases hm with rfl | rfl | rfl <;> simp
 | k :: l, m, h, hm => by
  have hk := h k (List.mem_cons_self ..)
  rw [List.foldl_cons, kmax_fold l (max m k.kind) (fun x hx => h x (List.mem_cons_of_mem _ hx)) (by omega)]
  simp only [List.any_cons, Bool.or_eq_true, decide_eq_true_eq]
  have m1 : max (1 : Int) 2 = 2 := rfl
  have m2 : max (1 : Int) 3 = 3 := rfl
  have m3 : max (2 : Int) 1 = 2 := rfl
  have m4 : max (2 : Int) 3 = 3 := rfl
  have m5 : max (3 : Int) 1 = 3 := rfl
  have m6 : max (3 : Int) 2 = 3 := rfl
  rcases hk with e | e | e <;> rcases hm with rfl | rfl | rfl <;> rw [e] <;> simp [m1, m2, m3, m4, m5, m6]
theorem kmax_eq {l : List KeyD} (h : ∀ k ∈ l, k.kind = 1 ∨ k.kind = 2 ∨ k.kind = 3) : kmaxT l = kindT l := by
 rw [kmaxT, kmax_fold l 1 h (.inl rfl), kindT]
 simp
theorem rkind_any (p : ProgD) (i : Nat) (hi : i < p.tables.l.length) (w : World) (o : ProgOk w p) (hc : ∀ t ∈ p.tables.l, ∀ v ∈ t.args.l, (Lit.int .u32 v).wf = true) (hf : TabFine p p.tables.l[i]) :
  Calls Tryz.prog 121 #[.agg (progCells p), .int .i64 i] w fun e w' => e = .returned (.int .i64 (kindT p.tables.l[i].keys.l)) ∧ Below w.heap.size w w' := by
 obtain ⟨W, hW, hw, HB, hp⟩ := box1 w (progCells p) 31
 have HW := hi_ hw
 have hvl := fun u (hb : Below W.heap.size W u) => rvalid17_any p i hi u (o.below (below_step hw hb)) hc hf.ok
 have HK := hi_ ((o.tab _ (List.getElem_mem hi)).below hw).keys
 have HKd := hi_ hf.kinds
 obtain ⟨g, of, hA, hq⟩ := TabD.atA (o.tables.below hw (Nat.le_refl _)) hi
 have hn1 : (i : Int) < (p.tables.l.length : Int) := by omega
 clear o hw hc hf
 generalize p.tables.l[i] = t at *
 obtain ⟨tn, ⟨kl, kA, kc⟩, ta, td, tg, tz⟩ := t
 simp only at hq HK HKd ⊢
 have HR := hi_ (kmax_eq HKd.out)
 have hmk : kl.length ≤ 9223372036854775807 := HK.out.1
 simp only [progCells, hA] at hp hW hvl ⊢
 have HVl := hi_ hvl
 clear hA hvl
 go_enter Tryz.func121, Tryz.ntmps121
 go_upto_region 1 with fail
 rw [← hW]
 clear hW
 have hp3 := hp W HB
 go_wp2_with fail
 refine (HVl.out _ (by first | exact HB | exact ba1 HB | exact ba2 HB | exact ba3 HB)).mono ?_
 rintro e w1 ⟨rfl, hbN⟩
 replace HB := below_step (by first | exact HB | exact ba1 HB | exact ba2 HB | exact ba3 HB) hbN
 clear hbN
 have HB1 := hi_ HB
 go_wp2
 clear HB hp3
 go_loopw [5, 6] (fun bv iv wr => ∃ (k : Nat) (m : Int), k ≤ kl.length ∧ iv = .int .i64 k ∧ bv = .int .i64 m ∧ Hid (m = kmaxT (kl.take k)) ∧ Below W.heap.size W wr) (fun _ i _ => kl.length - (intOf i).toNat)
 case atStart => exact ⟨0, 1, Nat.zero_le _, rfl, rfl, hi_ rfl, HB1.out⟩
 case round =>
  obtain ⟨k, m, hk, rfl, rfl, HM, HB⟩ := hrel
  have hp3 := hp wr HB
  have hq3 := hq wr HB
  by_cases hlt : k < kl.length
  ·
   obtain ⟨g2, of2, hA2, d0, d1, d2⟩ := KeyD.at (HK.out.below HB (Nat.le_refl _)) hlt
   have HT : Hid (kmaxT (kl.take (k + 1)) = max (kmaxT (kl.take k)) kl[k].kind) := hi_ (by rw [take_snoc kl k hlt, kmax_snoc])
   have hlt' : (k : Int) < (kl.length : Int) := by omega
   simp only at hA2 d0 d1 d2
   subst hA2
   generalize kl[k] = y at *
   obtain ⟨yh, yf, yk⟩ := y
   simp only at d0 d1 d2 HT
   have HT2 : Hid (max m yk = kmaxT (kl.take (k + 1))) := hi_ (by rw [HT.out, ← HM.out])
   go_wp2
   go_roundw
   case rel => exact ⟨k + 1, max m yk, by omega, by go_num, rfl, HT2, HB⟩
   case measure => simp [intOf]; omega
  ·
   have e : k = kl.length := by omega
   have HR2 : Hid (m = kindT kl) := hi_ (by have h := HM.out; rw [e, List.take_length] at h; rw [h, HR.out])
   go_wp2
   go_ret
   exact ⟨by rw [HR2.out]; rfl, below_step HW.out HB⟩
theorem rwidths_any (p : ProgD) (i : Nat) (hi : i < p.tables.l.length) (w : World) (o : ProgOk w p) (hc : ∀ t ∈ p.tables.l, ∀ v ∈ t.args.l, (Lit.int .u32 v).wf = true) (hf : TabFine p p.tables.l[i]) :
  Calls Tryz.prog 119 #[.agg (progCells p), .int .i64 i] w fun e w' => ∃ A c, e = .returned (.slice A p.tables.l[i].keys.l.length c) ∧ w'.ownsRow w.heap.size 3 1 (.slice A p.tables.l[i].keys.l.length c) p.tables.l[i].keys.l.length (p.tables.l[i].keys.l.map (wcell p)) ∧ Below w.heap.size w w' := by
 obtain ⟨W, hW, hw, HB, hp⟩ := box1 w (progCells p) 31
 have HW := hi_ hw
 have hvl := fun u (hb : Below W.heap.size W u) => rvalid17_any p i hi u (o.below (below_step hw hb)) hc hf.ok
 have hwd := fun h f u (hb : Below W.heap.size W u) => rwidth17_any p h f u (o.below (below_step hw hb))
 have HK := hi_ ((o.tab _ (List.getElem_mem hi)).below hw).keys
 obtain ⟨g, of, hA, hq⟩ := TabD.atA (o.tables.below hw (Nat.le_refl _)) hi
 have hn1 : (i : Int) < (p.tables.l.length : Int) := by omega
 have h6 := hf.keys
 clear o hw hc hf
 generalize p.tables.l[i] = t at *
 obtain ⟨tn, ⟨kl, kA, kc⟩, ta, td, tg, tz⟩ := t
 simp only at hq HK h6 ⊢
 simp only [progCells, hA] at hp hW hvl hwd ⊢
 have HVl := hi_ hvl
 have HWd := hi_ hwd
 clear hA hvl hwd
 obtain ⟨i0, hi, hz0, hz1, hz2⟩ := info_parts Tryz.infoInt
 go_enter Tryz.func119, Tryz.ntmps119
 go_upto_region 1 with fail
 rw [← hW]
 clear hW
 have hp3 := hp W HB
 go_wp2_with fail
 refine (HVl.out _ (by first | exact HB | exact ba1 HB | exact ba2 HB | exact ba3 HB)).mono ?_
 rintro e w1 ⟨rfl, hbN⟩
 replace HB := below_step (by first | exact HB | exact ba1 HB | exact ba2 HB | exact ba3 HB) hbN
 clear hbN
 have HB1 := hi_ HB
 go_wp2
 clear HB hp3
 go_loopw [5, 6] (fun ov iv wr => ∃ (k : Nat) (A : Option Addr) (c : Nat), k ≤ kl.length ∧ iv = .int .i64 k ∧ ov = .slice A k c ∧ Hid (wr.ownsRow W.heap.size 3 1 (.slice A k c) k ((kl.take k).map (wcell p))) ∧ Below W.heap.size W wr)
  (fun _ i _ => kl.length - (intOf i).toNat)
 case atStart => exact ⟨0, none, 0, Nat.zero_le _, rfl, rfl, hi_ (World.ownsRow_nil _ _ _ _), HB1.out⟩
 case round =>
  obtain ⟨k, A, c, hk, rfl, rfl, HOw, HB⟩ := hrel
  have hp3 := hp wr HB
  have hq3 := hq wr HB
  by_cases hlt : k < kl.length
  ·
   obtain ⟨g2, of2, hA2, hkey⟩ := KeyD.atA HK.out hlt
   have HT : Hid ((kl.take (k + 1)).map (wcell p) = (kl.take k).map (wcell p) ++ [.int .i64 (widthAt p kl[k].h kl[k].f)]) := hi_ (by rw [take_snoc kl k hlt, List.map_append]; rfl)
   have hlt' : (k : Int) < (kl.length : Int) := by omega
   simp only at hA2 hkey
   subst hA2
   generalize kl[k] = y at *
   obtain ⟨yh, yf, yk⟩ := y
   simp only at hkey HT
   have HBE := hi_ HB
   have hB0 : Below W.heap.size W wr := HB
   have HC2 : Hid (∀ u, Below wr.heap.size wr u → _) := hi_ (fun u (hb : Below wr.heap.size wr u) => HWd.out yh yf u (below_step HBE.out hb))
   generalize widthAt p yh yf = wd at *
   have hbnd : Hid ((k + 1) * 8 ≤ 140737488355328 ∧ k + 1 ≤ 9223372036854775807) := hi_ ⟨by omega, by omega⟩
   have H0 := hi_ (Below.refl wr.heap.size wr)
   clear HB
   go_wp2
   clear hp3 hq3
   go_region_held3 (fun w' => Below W.heap.size W w') (first | exact HBw.out | exact below_alloc hB2 _ | exact hB2 | exact Below.drew hB0 | exact hB0 | assumption)
    (first
    | (go_at_call 187; refine (HC2.out _ (Below.drew H0.out)).mono ?_; rintro e w2 ⟨rfl, hb2⟩; have hO2 := own_below (w := World.drew wr) HOw.out hb2; have hB2 := below_step (Below.drew hB0) hb2)
    | (refine step_append_lies _ (by rfl) (.tmp 22) (.tmp 35) 29 (by rfl) W.heap.size 3 i0 (.int .i64 0) 1 8 Tryz.underlying29 hi hz0 hz1 hz2 rfl (by decide) (.slice A k c) k ((kl.take k).map (wcell p)) (by rfl) (hO2.alloc _) ⟨w2.heap.size, 0, none⟩ 1 1 [.int .i64 wd] (by rfl) rfl (one_intw _ _ _) ?_ (by decide) hbnd.out.2 hbnd.out.1 (Nat.le_trans hB2.size (by simp)) _ rfl ?_; (intro u hu; simp at hu; subst hu; rfl); intro g' cap w3 h1 h2 h3 h4; have HX3 := hi_ (And.intro h1 h2); have HBw := hi_ ((hB2.alloc hB2.size _).grown h2 (hB2.alloc hB2.size _).size fun j hj => (hO2.lt j hj).1); clear h1 h2 h3 h4))
   have HO3 : Hid (w3.ownsRow W.heap.size 3 1 (.slice (some ⟨g', 0, none⟩) (k + 1) cap) (k + 1) ((kl.take (k + 1)).map (wcell p))) := hi_ (by rw [HT.out]; first | exact HX3.out.1 | (rw [List.map_take]; exact HX3.out.1))
   go_wp2
   go_roundw
   case rel => exact ⟨k + 1, some ⟨g', 0, none⟩, cap, by omega, by go_num, rfl, HO3, HBw.out⟩
   case measure => simp [intOf]; omega
  ·
   have e : k = kl.length := by omega
   have HO1 : Hid (wr.ownsRow W.heap.size 3 1 (.slice A kl.length c) kl.length (kl.map (wcell p))) := hi_ (by have := HOw.out; rwa [e, List.take_length] at this)
   clear HOw
   subst e
   go_wp2
   go_ret
   exact ⟨A, c, rfl, own_weaken HW.out.size HO1.out, below_step HW.out HB⟩
theorem idxM_mem (l : List Int) (n : Int) : decide (idxM l n ≥ 0) = decide (n ∈ l) := by
 rcases idxM_cases l n with ⟨h1, h2⟩ | ⟨k, hk, h1, h2, _⟩
 · rw [decide_eq_false h2, h1]; rfl
 ·
  rw [decide_eq_true (show n ∈ l from h2 ▸ List.getElem_mem hk), h1]
  exact decide_eq_true (by omega)
theorem rallows_any (p : ProgD) (i : Nat) (hi : i < p.tables.l.length) (n : Int) (w : World) (o : ProgOk w p) (hc : ∀ t ∈ p.tables.l, ∀ v ∈ t.args.l, (Lit.int .u32 v).wf = true) (hf : TabFine p p.tables.l[i]) :
  Calls Tryz.prog 57 #[.agg (progCells p), .int .i64 i, .int .i64 n] w fun e w' => e = .returned (.bool (decide (n ∈ p.tables.l[i].acts.l))) ∧ Below w.heap.size w w' := by
 have HO := hi_ o
 obtain ⟨W, hW, hw, HB, hp⟩ := box1 w (progCells p) 31
 have HW := hi_ hw
 have hvl := fun u (hb : Below W.heap.size W u) => rvalid17_any p i hi u (o.below (below_step hw hb)) hc hf.ok
 have HK := hi_ ((o.tab _ (List.getElem_mem hi)).below hw).acts
 obtain ⟨g, of, hA, hq⟩ := TabD.atA (o.tables.below hw (Nat.le_refl _)) hi
 have hn1 : (i : Int) < (p.tables.l.length : Int) := by omega
 clear o hw hc hf
 generalize p.tables.l[i] = t at *
 obtain ⟨tn, tk, ⟨kl, kA, kc⟩, td, tg, tz⟩ := t
 simp only at hq HK ⊢
 simp only [progCells, hA] at hp hW hvl ⊢
 have HVl := hi_ hvl
 have HM := hi_ (idxM_mem kl n)
 have HI := hi_ (fun u hb => rindex_any ⟨kl, kA, kc⟩ n u (HK.out.below hb (Nat.le_refl _)))
 generalize idxM kl n = z at *
 generalize decide (n ∈ kl) = b at *
 clear hA hvl
 go_enter Tryz.func57, Tryz.ntmps57
 go_upto_region 1 with fail
 rw [← hW]
 clear hW
 have hp3 := hp W HB
 go_wp2_with fail
 refine (HVl.out _ (by first | exact HB | exact ba1 HB | exact ba2 HB | exact ba3 HB)).mono ?_
 rintro e w1 ⟨rfl, hbN⟩
 replace HB := below_step (by first | exact HB | exact ba1 HB | exact ba2 HB | exact ba3 HB) hbN
 clear hbN
 clear hp3
 have hp3 := hp _ HB
 have hq3 := hq _ HB
 go_wp2_with fail
 refine (HI.out _ HB).mono ?_
 rintro e w' ⟨rfl, rfl⟩
 have hM := HM.out
 go_wp2
 go_ret
 exact ⟨by rw [← hM]; rfl, below_step HW.out HB⟩
theorem rentCheck_any (p : ProgD) (i : Nat) (hi : i < p.tables.l.length) (x : L KmD) (prio a : Int) (y : L Int) (w : World) (o : ProgOk w p) (hc : ∀ t ∈ p.tables.l, ∀ v ∈ t.args.l, (Lit.int .u32 v).wf = true) (hf : TabFine p p.tables.l[i])
  (hx : LOk w 2 KmD.cells x) (hk : ∀ k ∈ x.l, (Lit.int .u32 k.v).wf = true ∧ (Lit.int .u32 k.m).wf = true) (hy : LOk w 1 ucell y) (hyu : ∀ v ∈ y.l, (Lit.int .u32 v).wf = true) :
  Calls Tryz.prog 56 #[.agg (progCells p), .int .i64 i, .agg (entCells x prio a y)] w fun e w' => e = .returned (.int .i64 (entM p p.tables.l[i] x.l prio a y.l)) ∧ Below w.heap.size w w' := by
 obtain ⟨W, hW, hw, HB, hp⟩ := box2 w (progCells p) 31 (entCells x prio a y) 37
 have HW := hi_ hw
 have htc := fun u (hb : Below W.heap.size W u) => rtableCheck_any p i hi u (o.below (below_step hw hb)) hc
 have htw := fun u (hb : Below W.heap.size W u) => rwidths_any p i hi u (o.below (below_step hw hb)) hc hf
 have htk := fun u (hb : Below W.heap.size W u) => rkind_any p i hi u (o.below (below_step hw hb)) hc hf
 have hta := fun u (hb : Below W.heap.size W u) => rallows_any p i hi a u (o.below (below_step hw hb)) hc hf
 have hcc := fun u (hb : Below W.heap.size W u) => rcheckCall_any p a y u (o.below (below_step hw hb)) (hy.below (below_step hw hb) (Nat.le_refl _)) hyu
 have HK := hi_ ((o.tab _ (List.getElem_mem hi)).below hw).keys
 have HX := hi_ (hx.below hw (Nat.le_refl _))
 have HKW := hi_ hk
 obtain ⟨g, of, hA, hq⟩ := TabD.atA (o.tables.below hw (Nat.le_refl _)) hi
 have hn1 : (i : Int) < (p.tables.l.length : Int) := by omega
 have h6 := hf.keys
 have HWd := hi_ (tab_widths hf.ok)
 have hok := hf.ok
 clear o hw hc hf hx hk hy hyu
 generalize p.tables.l[i] = t at *
 rw [hok] at htc
 generalize (tabM p t).1 = tz at *
 obtain ⟨tn, ⟨kl, kA, kc⟩, ta, td, tg, ts⟩ := t
 obtain ⟨xl, xA, xc⟩ := x
 simp only at hq HK HX HKW HWd h6 htw htk hta htc hp ⊢
 have HR := hi_ (entM.eq_1 p ⟨tn, ⟨kl, kA, kc⟩, ta, td, tg, ts⟩ xl prio a y.l)
 have HRm := hi_ (mayM.eq_1 p ⟨tn, ⟨kl, kA, kc⟩, ta, td, tg, ts⟩ a y.l)
 generalize mayM p ⟨tn, ⟨kl, kA, kc⟩, ta, td, tg, ts⟩ a y.l = mm at *
 simp only [progCells, entCells, hA] at hp hW htc htw htk hta hcc HR HRm ⊢
 generalize entM p ⟨tn, ⟨kl, kA, kc⟩, ta, td, tg, ts⟩ xl prio a y.l = R at *
 have HTc := hi_ htc
 have HTw := hi_ htw
 have HTk := hi_ htk
 have HTa := hi_ hta
 have HCc := hi_ hcc
 have hmx : xl.length ≤ 9223372036854775807 := HX.out.1
 clear hA htc htw htk hta hcc hok
 go_enter Tryz.func56, Tryz.ntmps56
 go_upto_region 1 with fail
 rw [← hW]
 clear hW
 have hp3 := (hp W HB).1
 have hp4 := (hp W HB).2
 go_wp2_with fail
 refine (HTc.out _ (by first | exact HB | exact ba1 HB | exact ba2 HB | exact ba3 HB)).mono ?_
 rintro e w1 ⟨rfl, hbN⟩
 replace HB := below_step (by first | exact HB | exact ba1 HB | exact ba2 HB | exact ba3 HB) hbN
 clear hbN
 clear hp3 hp4
 have hp3 := (hp _ HB).1
 have hq3 := hq _ HB
 go_upto_region 4 with fail
 clear hp3 hq3
 have hp3 := (hp _ HB).1
 go_wp2_with fail
 refine (HTw.out _ HB).mono ?_
 rintro e wc ⟨wA, wcp, rfl, hown, hb1⟩
 have HB5 : Hid (Below W.heap.size W wc) := hi_ (below_step HB hb1)
 have HWl0 := hi_ (widths_lok hown)
 have HMk : Hid (kl.length ≤ 9223372036854775807) := hi_ (by have := HK.out.1; simpa [maxLen] using Nat.le_trans this (by unfold maxLen; decide))
 clear hown hb1 HB hp3
 obtain ⟨WL, hWL⟩ : ∃ WL : List Int, WL = kl.map fun k => widthAt p k.h k.f := ⟨_, rfl⟩
 have HWl : Hid (LOk wc 1 icell ⟨WL, wA, wcp⟩) := hi_ (by rw [hWL]; exact HWl0.out)
 have HWe := hi_ hWL
 clear hWL HTw HWl0
 have hp3 := (hp wc HB5.out).2
 by_cases hlen : xl.length = kl.length
 case neg =>
  have hl' : ((xl.length : Int) != (kl.length : Int)) = true := bne_iff_ne.2 (by omega)
  replace HR := tr_ HR (if_pos hlen)
  clear hlen
  go_wp2
  go_ret
  exact ⟨ret_iO HR.out, below_step HW.out HB5.out⟩
 have hl' : ((kl.length : Int)) = (xl.length : Int) := by omega
 replace HR := tr_ HR (if_neg (fun h => h hlen))
 have HL := hi_ hlen
 clear hlen
 go_wp2
 clear hp3
 go_loopw [8, 10] (fun _ iv wr => ∃ k : Nat, k ≤ xl.length ∧ iv = .int .i64 k ∧ Hid (∀ j, j < k → keyErrM p xl kl j = none) ∧ Below W.heap.size W wr ∧ Hid (Below wc.heap.size wc wr)) (fun _ i _ => xl.length - (intOf i).toNat)
 case atStart => exact ⟨0, Nat.zero_le _, rfl, hi_ (fun j h => absurd h (Nat.not_lt_zero _)), HB5.out, hi_ (Below.refl _ _)⟩
 case round =>
  obtain ⟨k, hk, rfl, HPre, HB, HB2⟩ := hrel
  by_cases hlt : k < xl.length
  ·
   have hlk : k < kl.length := by have := HL.out; omega
   have hlw : k < WL.length := by have := HWe.out; rw [this, List.length_map]; exact hlk
   obtain ⟨gx, ox, hxA, hd⟩ := KmD.atA HX.out hlt
   obtain ⟨gk, okk, hkA, hkd⟩ := KeyD.atA HK.out hlk
   obtain ⟨gw, ow, hwA, hwd⟩ := icell_atA HWl.out hlw
   have HE := hi_ (keyErr_at p xl kl k hlt hlk)
   have HV := hi_ (HKW.out _ (List.getElem_mem hlt))
   have HWk := hi_ (HWd.out _ (List.getElem_mem hlk))
   have HWv : Hid (WL[k] = widthAt p kl[k].h kl[k].f) := hi_ (by
    have e : WL[k]? = (kl.map fun k => widthAt p k.h k.f)[k]? := by rw [HWe.out]
    rw [List.getElem?_eq_getElem hlw, List.getElem?_map, List.getElem?_eq_getElem hlk] at e
    simpa using e)
   simp only at hxA hkA hwA hd hkd hwd
   subst hxA hkA hwA
   rw [HWv.out] at hwd
   generalize xl[k] = x at *
   generalize kl[k] = y at *
   generalize widthAt p y.h y.f = wd at *
   have HC := hi_ (fun u => rcheckKey_any x y.kind wd u HWk.out HV.out.1 HV.out.2)
   generalize keyChkM x y.kind wd = ch at *
   obtain ⟨xv, xm⟩ := x
   obtain ⟨yh, yf, yk⟩ := y
   simp only at hd hkd HC
   have k1 := fun u (h : Below wr.heap.size wr u) => (hp u (below_step HB h)).1
   have k2 := fun u (h : Below wr.heap.size wr u) => (hp u (below_step HB h)).2
   have k3 := fun u (h : Below wr.heap.size wr u) => hq u (below_step HB h)
   have k4 := fun u (h : Below wr.heap.size wr u) => hd u (below_step HB h)
   have k5 := fun u (h : Below wr.heap.size wr u) => (hkd u (below_step HB h)).2.2
   have k6 := fun u (h : Below wr.heap.size wr u) => hwd u (below_step HB2.out h)
   have hlt1 : (k : Int) < (xl.length : Int) := by omega
   have hlt2 : (k : Int) < (kl.length : Int) := by omega
   have HBr := hi_ HB
   have H0 := hi_ (Below.refl wr.heap.size wr)
   clear hd hkd hwd HV HWk HWv hp hq HB
   go_upto_region 10 with fail
   go_region_held3 (fun w' => Below wr.heap.size wr w') (first | exact H0.out | exact below_drew H0.out | (exact below_step (by assumption) (by assumption)) | assumption)
    (first | (go_at_call 120; refine (HC.out _).mono ?_; rintro e w3 ⟨rfl, hb3⟩))
   have HB3 : Hid (Below wr.heap.size wr w3) := hi_ (by assumption)
   clear k1 k2 k3 k4 k5 k6
   by_cases hz : ch = 0
   ·
    have HP2 := hi_ (firstE_step HPre.out (HE.out.trans (if_neg (fun h => h hz))))
    subst hz
    clear HE
    go_wp2
    go_roundw
    case rel => exact ⟨k + 1, by omega, by go_num, HP2, below_step HBr.out HB3.out, hi_ (below_step HB2.out HB3.out)⟩
    case measure => simp [intOf]; omega
   ·
    have hz' : (ch != 0) = true := bne_iff_ne.2 hz
    have HR2 : Hid (R = ch) := hi_ (by rw [HR.out, firstE_some hlk HPre.out (HE.out.trans (if_pos hz))])
    clear hz HE
    go_wp2
    go_ret
    exact ⟨ret_iO HR2.out, below_step HW.out (below_step HBr.out HB3.out)⟩
  ·
   have e : k = kl.length := by have := HL.out; omega
   rw [e] at HPre
   have HR2 := HR.out
   rw [firstE_none HPre.out] at HR2
   replace HR := hi_ HR2
   clear HR2
   simp only at HR
   have HBr := hi_ HB
   have hp3 := (hp wr HB).1
   have hp4 := (hp wr HB).2
   clear e
   by_cases hp0 : prio < 0
   ·
    replace HR := tr_ HR (if_pos (.inl hp0))
    have e0 : decide (prio < 0) = true := decide_eq_true hp0
    go_wp2
    go_ret
    exact ⟨ret_iO HR.out, below_step HW.out HBr.out⟩
   have e0 : decide (prio < 0) = false := decide_eq_false hp0
   by_cases hp1 : 255 < prio
   ·
    replace HR := tr_ HR (if_pos (.inr hp1))
    have e1 : decide (255 < prio) = true := decide_eq_true hp1
    go_wp2
    go_ret
    exact ⟨ret_iO HR.out, below_step HW.out HBr.out⟩
   have e1 : decide (255 < prio) = false := decide_eq_false hp1
   replace HR := tr_ HR (if_neg (by rintro (h | h); exact hp0 h; exact hp1 h))
   by_cases hz : prio = 0
   ·
    have hz' : decide (0 < prio) = false := decide_eq_false (by omega)
    replace HR := tr_ HR (if_neg (fun h => h.1 hz))
    clear hp0 hp1 hz
    by_cases ha : a ∈ ta.l
    ·
     rw [decide_eq_true ha] at HTa
     have HR2 := hi_ (HR.out.trans (HRm.out.trans (if_pos ha)))
     clear ha HR HRm
     generalize callM p a y.l = cm at *
     go_wp2_with fail
     refine (HTa.out _ (by first | exact HB | exact ba1 HB | exact ba2 HB | exact ba3 HB)).mono ?_
     rintro e w5 ⟨rfl, hbN⟩
     replace HB := below_step (by first | exact HB | exact ba1 HB | exact ba2 HB | exact ba3 HB) hbN
     clear hbN
     clear hp3 hp4
     have hp3 := (hp _ HB).1
     have hp4 := (hp _ HB).2
     go_wp2_with fail
     refine (HCc.out _ (by first | exact HB | exact ba1 HB | exact ba2 HB | exact ba3 HB)).mono ?_
     rintro e w6 ⟨rfl, hbN⟩
     replace HB := below_step (by first | exact HB | exact ba1 HB | exact ba2 HB | exact ba3 HB) hbN
     clear hbN
     go_wp2
     go_ret
     exact ⟨ret_iO HR2.out, below_step HW.out HB⟩
    ·
     rw [decide_eq_false ha] at HTa
     have HR2 := hi_ (HR.out.trans (HRm.out.trans (if_neg ha)))
     clear ha HR HRm
     go_wp2_with fail
     refine (HTa.out _ (by first | exact HB | exact ba1 HB | exact ba2 HB | exact ba3 HB)).mono ?_
     rintro e w5 ⟨rfl, hbN⟩
     replace HB := below_step (by first | exact HB | exact ba1 HB | exact ba2 HB | exact ba3 HB) hbN
     clear hbN
     go_wp2
     go_ret
     exact ⟨ret_iO HR2.out, below_step HW.out HB⟩
   have hz' : decide (0 < prio) = true := decide_eq_true (by omega)
   by_cases hk3 : kindT kl = 3
   ·
    replace HR := tr_ HR (if_neg (fun h => h.2 hk3))
    rw [hk3] at HTk
    clear hp0 hp1 hz hk3
    go_wp2_with fail
    refine (HTk.out _ (by first | exact HB | exact ba1 HB | exact ba2 HB | exact ba3 HB)).mono ?_
    rintro e w4 ⟨rfl, hbN⟩
    replace HB := below_step (by first | exact HB | exact ba1 HB | exact ba2 HB | exact ba3 HB) hbN
    clear hbN
    clear hp3 hp4
    have hp3 := (hp _ HB).1
    have hp4 := (hp _ HB).2
    by_cases ha : a ∈ ta.l
    ·
     rw [decide_eq_true ha] at HTa
     have HR2 := hi_ (HR.out.trans (HRm.out.trans (if_pos ha)))
     clear ha HR HRm
     generalize callM p a y.l = cm at *
     go_wp2_with fail
     refine (HTa.out _ (by first | exact HB | exact ba1 HB | exact ba2 HB | exact ba3 HB)).mono ?_
     rintro e w5 ⟨rfl, hbN⟩
     replace HB := below_step (by first | exact HB | exact ba1 HB | exact ba2 HB | exact ba3 HB) hbN
     clear hbN
     clear hp3 hp4
     have hp3 := (hp _ HB).1
     have hp4 := (hp _ HB).2
     go_wp2_with fail
     refine (HCc.out _ (by first | exact HB | exact ba1 HB | exact ba2 HB | exact ba3 HB)).mono ?_
     rintro e w6 ⟨rfl, hbN⟩
     replace HB := below_step (by first | exact HB | exact ba1 HB | exact ba2 HB | exact ba3 HB) hbN
     clear hbN
     go_wp2
     go_ret
     exact ⟨ret_iO HR2.out, below_step HW.out HB⟩
    ·
     rw [decide_eq_false ha] at HTa
     have HR2 := hi_ (HR.out.trans (HRm.out.trans (if_neg ha)))
     clear ha HR HRm
     go_wp2_with fail
     refine (HTa.out _ (by first | exact HB | exact ba1 HB | exact ba2 HB | exact ba3 HB)).mono ?_
     rintro e w5 ⟨rfl, hbN⟩
     replace HB := below_step (by first | exact HB | exact ba1 HB | exact ba2 HB | exact ba3 HB) hbN
     clear hbN
     go_wp2
     go_ret
     exact ⟨ret_iO HR2.out, below_step HW.out HB⟩
   ·
    replace HR := hi_ (HR.out.trans (if_pos ⟨hz, hk3⟩))
    have hk3' : (kindT kl != 3) = true := bne_iff_ne.2 hk3
    generalize kindT kl = kt at *
    clear hp0 hp1 hz hk3
    go_wp2_with fail
    refine (HTk.out _ (by first | exact HB | exact ba1 HB | exact ba2 HB | exact ba3 HB)).mono ?_
    rintro e w4 ⟨rfl, hbN⟩
    replace HB := below_step (by first | exact HB | exact ba1 HB | exact ba2 HB | exact ba3 HB) hbN
    clear hbN
    go_wp2
    go_ret
    exact ⟨ret_iO HR.out, below_step HW.out HB⟩
theorem ochkCall_any (p : ProgD) (i : Nat) (hi : i < p.tables.l.length) (a : Int) (y : L Int) (w : World) (o : ProgOk w p) (hc : ∀ t ∈ p.tables.l, (Lit.int .i64 t.defA).wf = true) (hf : TabFine p p.tables.l[i]) (hy : LOk w 1 ucell y) :
  Calls Tryz.prog 103 #[.agg (progCells p), .int .i64 i, .agg #[.int .i64 a, .slice y.A y.l.length y.c]] w fun e w' => e = .returned (.int .i64 (mayM p p.tables.l[i] a y.l)) ∧ Below w.heap.size w w' := by
 obtain ⟨W, hW, hw, HB, hp⟩ := box2 w (progCells p) 31 #[.int .i64 a, .slice y.A y.l.length y.c] 35
 have HW := hi_ hw
 have HTa := hi_ (fun u (hb : Below W.heap.size W u) => tallows_any p i hi a u (o.below (below_step hw hb)) hc hf)
 have HCc := hi_ (fun u (hb : Below W.heap.size W u) => checkCall_any p a y u (o.below (below_step hw hb)) (hy.below (below_step hw hb) (Nat.le_refl _)))
 have HR := hi_ (mayM.eq_1 p p.tables.l[i] a y.l)
 generalize mayM p p.tables.l[i] a y.l = R at *
 clear o hw hc hf hy
 by_cases hm : a ∈ p.tables.l[i].acts.l
 ·
  rw [decide_eq_true hm] at HTa
  replace HR := tr_ HR (if_pos hm)
  clear hm
  generalize callM p a y.l = cm at *
  go_enter Tryz.func103, Tryz.ntmps103
  go_upto_region 1 with fail
  rw [← hW]
  clear hW
  have hp3 := (hp W HB).1
  have hp4 := (hp W HB).2
  go_wp2_with fail
  refine (HTa.out _ (by first | exact HB | exact ba1 HB | exact ba2 HB | exact ba3 HB)).mono ?_
  rintro e w1 ⟨rfl, hbN⟩
  replace HB := below_step (by first | exact HB | exact ba1 HB | exact ba2 HB | exact ba3 HB) hbN
  clear hbN
  clear hp3 hp4
  have hp3 := (hp _ HB).1
  have hp4 := (hp _ HB).2
  go_wp2_with fail
  refine (HCc.out _ (by first | exact HB | exact ba1 HB | exact ba2 HB | exact ba3 HB)).mono ?_
  rintro e w2 ⟨rfl, hbN⟩
  replace HB := below_step (by first | exact HB | exact ba1 HB | exact ba2 HB | exact ba3 HB) hbN
  clear hbN
  go_wp2
  go_ret
  exact ⟨ret_iO HR.out, below_step HW.out HB⟩
 ·
  rw [decide_eq_false hm] at HTa
  replace HR := tr_ HR (if_neg hm)
  clear hm
  go_enter Tryz.func103, Tryz.ntmps103
  go_upto_region 1 with fail
  rw [← hW]
  clear hW
  have hp3 := (hp W HB).1
  have hp4 := (hp W HB).2
  go_wp2_with fail
  refine (HTa.out _ (by first | exact HB | exact ba1 HB | exact ba2 HB | exact ba3 HB)).mono ?_
  rintro e w1 ⟨rfl, hbN⟩
  replace HB := below_step (by first | exact HB | exact ba1 HB | exact ba2 HB | exact ba3 HB) hbN
  clear hbN
  go_wp2
  go_ret
  exact ⟨ret_iO HR.out, below_step HW.out HB⟩
theorem ocheck_any (p : ProgD) (x : OpD) (w : World) (o : ProgOk w p) (hck : checkM p = none) (hc : ∀ t ∈ p.tables.l, (Lit.int .i64 t.defA).wf = true) (hx : OpOk w x) (hf : OpFine x.bare) :
  Calls Tryz.prog 44 #[.agg (progCells p), .agg (opCells x)] w fun e w' => e = .returned (.int .i64 (opChk p x.bare)) ∧ Below w.heap.size w w' := by
 obtain ⟨W, hW, hw, HB, hp⟩ := box2 w (progCells p) 31 (opCells x) 39
 have HW := hi_ hw
 have HR := hi_ (opChk.eq_1 p x.bare)
 have HEc := hi_ (fun i (hi : i < p.tables.l.length) u (hb : Below W.heap.size W u) => entCheck_any p i hi x.keys x.prio x.ea x.eargs u (o.below (below_step hw hb)) hc (tab_fine hck hi) (hx.keys.below (below_step hw hb) (Nat.le_refl _)) hf.keys (hx.eargs.below (below_step hw hb) (Nat.le_refl _)))
 have HCc := hi_ (fun i (hi : i < p.tables.l.length) u (hb : Below W.heap.size W u) => ochkCall_any p i hi x.ca x.cargs u (o.below (below_step hw hb)) hc (tab_fine hck hi) (hx.cargs.below (below_step hw hb) (Nat.le_refl _)))
 have hmt := o.tables.1
 unfold maxLen at hmt
 generalize opChk p x.bare = R at *
 clear o hw hck hc hx hf
 obtain ⟨kd, tb, id, ks, pr, ea, eg, ca, cg⟩ := x
 simp only [OpD.bare] at HR HEc HCc
 unfold entCells at HEc
 by_cases h1 : kd < 1
 ·
  replace HR := tr_ HR (if_pos (.inl h1))
  have e1 : decide (kd < 1) = true := decide_eq_true h1
  go_enter Tryz.func44, Tryz.ntmps44
  go_upto_region 1 with fail
  rw [← hW]
  clear hW
  have hp3 := (hp W HB).1
  have hp4 := (hp W HB).2
  go_wp2
  go_ret
  exact ⟨ret_iO HR.out, below_step HW.out HB⟩
 have e1 : decide (kd < 1) = false := decide_eq_false h1
 by_cases h2 : 4 < kd
 ·
  replace HR := tr_ HR (if_pos (.inr h2))
  have e2 : decide (4 < kd) = true := decide_eq_true h2
  go_enter Tryz.func44, Tryz.ntmps44
  go_upto_region 1 with fail
  rw [← hW]
  clear hW
  have hp3 := (hp W HB).1
  have hp4 := (hp W HB).2
  go_wp2
  go_ret
  exact ⟨ret_iO HR.out, below_step HW.out HB⟩
 have e2 : decide (4 < kd) = false := decide_eq_false h2
 replace HR := tr_ HR (if_neg (by rintro (h | h); exact h1 h; exact h2 h))
 by_cases h3 : tb < 0
 ·
  replace HR := tr_ HR (if_pos h3)
  have e3 : decide (tb < 0) = true := decide_eq_true h3
  go_enter Tryz.func44, Tryz.ntmps44
  go_upto_region 1 with fail
  rw [← hW]
  clear hW
  have hp3 := (hp W HB).1
  have hp4 := (hp W HB).2
  go_wp2
  go_ret
  exact ⟨ret_iO HR.out, below_step HW.out HB⟩
 have e3 : decide (tb < 0) = false := decide_eq_false h3
 replace HR := tr_ HR (if_neg h3)
 obtain ⟨i, rfl⟩ : ∃ i : Nat, tb = i := ⟨tb.toNat, by omega⟩
 simp only [Int.toNat_natCast] at HR
 by_cases h4 : i < p.tables.l.length
 case neg =>
  have e4 : decide (p.tables.l.length ≤ i) = true := decide_eq_true (by omega)
  rw [List.getElem?_eq_none (by omega)] at HR
  simp only at HR
  go_enter Tryz.func44, Tryz.ntmps44
  go_upto_region 1 with fail
  rw [← hW]
  clear hW
  have hp3 := (hp W HB).1
  have hp4 := (hp W HB).2
  go_wp2
  go_ret
  exact ⟨ret_iO HR.out, below_step HW.out HB⟩
 have e4 : decide (p.tables.l.length ≤ i) = false := decide_eq_false (by omega)
 rw [List.getElem?_eq_getElem h4] at HR
 simp only at HR
 replace HEc := hi_ (HEc.out i h4)
 replace HCc := hi_ (HCc.out i h4)
 generalize p.tables.l[i] = t at *
 by_cases h5 : kd = 1
 ·
  replace HR := tr_ HR (if_pos h5)
  generalize entM p t ks.l pr ea eg.l = em at *
  subst h5
  clear h1 h2 h3 h4 e1 e2
  go_enter Tryz.func44, Tryz.ntmps44
  go_upto_region 1 with fail
  rw [← hW]
  clear hW
  have hp3 := (hp W HB).1
  have hp4 := (hp W HB).2
  go_wp2_with fail
  refine (HEc.out _ (by first | exact HB | exact ba1 HB | exact ba2 HB | exact ba3 HB)).mono ?_
  rintro e w2 ⟨rfl, hbN⟩
  replace HB := below_step (by first | exact HB | exact ba1 HB | exact ba2 HB | exact ba3 HB) hbN
  clear hbN
  go_wp2
  go_ret
  exact ⟨ret_iO HR.out, below_step HW.out HB⟩
 have e5 : (kd == 1) = false := bf_ h5
 replace HR := tr_ HR (if_neg h5)
 generalize mayM p t ca cg.l = mm at *
 by_cases h6 : kd = 4
 ·
  replace HR := hi_ (HR.out.trans ((if_neg (fun h => h.1 h6)).trans (if_neg (by omega))))
  subst h6
  clear h1 h2 h3 h4 h5 e1 e2 e5
  go_enter Tryz.func44, Tryz.ntmps44
  go_upto_region 1 with fail
  rw [← hW]
  clear hW
  have hp3 := (hp W HB).1
  have hp4 := (hp W HB).2
  go_wp2_with fail
  refine (HCc.out _ (by first | exact HB | exact ba1 HB | exact ba2 HB | exact ba3 HB)).mono ?_
  rintro e w2 ⟨rfl, hbN⟩
  replace HB := below_step (by first | exact HB | exact ba1 HB | exact ba2 HB | exact ba3 HB) hbN
  clear hbN
  go_wp2
  go_ret
  exact ⟨ret_iO HR.out, below_step HW.out HB⟩
 have e6 : (kd != 4) = true := bne_iff_ne.2 h6
 by_cases h7 : id < 1
 ·
  replace HR := hi_ (HR.out.trans (if_pos ⟨h6, .inl h7⟩))
  have e7 : decide (id < 1) = true := decide_eq_true h7
  clear h1 h2 h3 h4 h5 h6 h7
  go_enter Tryz.func44, Tryz.ntmps44
  go_upto_region 1 with fail
  rw [← hW]
  clear hW
  have hp3 := (hp W HB).1
  have hp4 := (hp W HB).2
  go_wp2
  go_ret
  exact ⟨ret_iO HR.out, below_step HW.out HB⟩
 have e7 : decide (id < 1) = false := decide_eq_false h7
 by_cases h8 : 1073741824 < id
 ·
  replace HR := hi_ (HR.out.trans (if_pos ⟨h6, .inr h8⟩))
  have e8 : decide (1073741824 < id) = true := decide_eq_true h8
  clear h1 h2 h3 h4 h5 h6 h7 h8
  go_enter Tryz.func44, Tryz.ntmps44
  go_upto_region 1 with fail
  rw [← hW]
  clear hW
  have hp3 := (hp W HB).1
  have hp4 := (hp W HB).2
  go_wp2
  go_ret
  exact ⟨ret_iO HR.out, below_step HW.out HB⟩
 have e8 : decide (1073741824 < id) = false := decide_eq_false h8
 replace HR := tr_ HR (if_neg (by rintro ⟨_, h | h⟩; exact h7 h; exact h8 h))
 clear h7 h8 h1 h2 h3 h4
 by_cases h9 : kd = 3
 ·
  replace HR := tr_ HR (if_pos h9)
  subst h9
  clear h5 h6 e1 e2 e5 e6
  go_enter Tryz.func44, Tryz.ntmps44
  go_upto_region 1 with fail
  rw [← hW]
  clear hW
  have hp3 := (hp W HB).1
  have hp4 := (hp W HB).2
  go_wp2
  go_ret
  exact ⟨ret_iO HR.out, below_step HW.out HB⟩
 ·
  replace HR := tr_ HR (if_neg h9)
  have e9 : (kd != 3) = true := bne_iff_ne.2 h9
  clear h5 h6 h9
  go_enter Tryz.func44, Tryz.ntmps44
  go_upto_region 1 with fail
  rw [← hW]
  clear hW
  have hp3 := (hp W HB).1
  have hp4 := (hp W HB).2
  go_wp2_with fail
  refine (HCc.out _ (by first | exact HB | exact ba1 HB | exact ba2 HB | exact ba3 HB)).mono ?_
  rintro e w2 ⟨rfl, hbN⟩
  replace HB := below_step (by first | exact HB | exact ba1 HB | exact ba2 HB | exact ba3 HB) hbN
  clear hbN
  go_wp2
  go_ret
  exact ⟨ret_iO HR.out, below_step HW.out HB⟩
theorem tx_eq (l : List UInt8) (s : ByteArray) : (l == s.toList) = decide (l = s.data.toList) := by
 rw [toList_data, Bool.eq_iff_iff, beq_iff_eq, decide_eq_true_iff]
theorem wrap_nat {i : Nat} (h : i ≤ 9223372036854775806) : IntKind.i64.wrap ((i : Int) + 1) = ((i + 1 : Nat) : Int) := by
 rw [IntWalk.i64_in _ (by omega)]; rfl
theorem tk_text (a b c d : Value) (w : World) : (Instr.field 191 (.agg #[a, b, c, d]) 1).run Tryz.prog w = .ok b w := by kernel_rfl
theorem tk_value (a b c d : Value) (w : World) : (Instr.field 191 (.agg #[a, b, c, d]) 2).run Tryz.prog w = .ok c w := by kernel_rfl
theorem put4 {w : World} {k : Nat} {ty : TypeId} {a b c d : Value} (h : Blk w k ty #[a, b, c, d]) (x y z u : Value) :
  Blk ((((w.setCell ⟨k, 0, none⟩ x).setCell ⟨k, 1, none⟩ y).setCell ⟨k, 2, none⟩ z).setCell ⟨k, 3, none⟩ u) k ty #[x, y, z, u] := (((h.set_ 0 x).set_ 1 y).set_ 2 z).set_ 3 u
theorem put4_below {w w1 : World} {B k : Nat} (hb : Below B w w1) (hk : B ≤ k) (x y z u : Value) :
  Below B w ((((w1.setCell ⟨k, 0, none⟩ x).setCell ⟨k, 1, none⟩ y).setCell ⟨k, 2, none⟩ z).setCell ⟨k, 3, none⟩ u) := (((hb.setCell hk _).setCell hk _).setCell hk _).setCell hk _
structure Gro (w w' : World) (a b : Nat) : Prop where
 os : w'.os = w.os
 tape : w'.tape = w.tape
 output : w'.output = w.output
 size : w.heap.size ≤ w'.heap.size
 block : ∀ k, k < w.heap.size → k ≠ a → k ≠ b → w'.heap[k]? = w.heap[k]?
theorem Gro.refl (w : World) (a b : Nat) : Gro w w a b := ⟨rfl, rfl, rfl, Nat.le_refl _, fun _ _ _ _ => rfl⟩
theorem Gro.trans {u v w : World} {a b : Nat} (h : Gro u v a b) (h2 : Gro v w a b) : Gro u w a b :=
 ⟨h2.os.trans h.os, h2.tape.trans h.tape, h2.output.trans h.output, Nat.le_trans h.size h2.size, fun k hk h1 h3 => (h2.block k (Nat.lt_of_lt_of_le hk h.size) h1 h3).trans (h.block k hk h1 h3)⟩
theorem Gro.of {u v : World} (h : Below u.heap.size u v) (a b : Nat) : Gro u v a b := ⟨h.os, h.tape, h.output, h.size, fun i hi _ _ => h.block i hi⟩
theorem Gro.below {u v w : World} {a b : Nat} (h : Gro u v a b) (hb : Below v.heap.size v w) : Gro u w a b := h.trans (.of hb a b)
theorem Gro.set {u v : World} {a b k : Nat} (h : Gro u v a b) (hk : k = a ∨ k = b ∨ u.heap.size ≤ k) (j : Nat) (x : Value) : Gro u (v.setCell ⟨k, j, none⟩ x) a b := by
 refine ⟨h.os, h.tape, h.output, by have := h.size; simpa using this, fun i hi h1 h2 => ?_⟩
 rw [← h.block i hi h1 h2]
 refine Below.heap_setCell v ⟨k, j, none⟩ x i (show i ≠ k from ?_)
 omega
theorem Gro.blk {w w' : World} {a b k : Nat} {t : TypeId} {cs : Array Value} (h : Blk w k t cs) (hg : Gro w w' a b) (h1 : k ≠ a) (h2 : k ≠ b) : Blk w' k t cs := (hg.block k h.lt h1 h2).trans h
structure OR where
 gR : Nat
 gA : Nat
 gL : Nat
 x : L Tk
 p : ProgD
def nextF (r : OR) : Value := .func (.func 128) #[] #[.pointer (some ⟨r.gA, 0, none⟩), .pointer (some ⟨r.gL, 0, none⟩)]
def stepF (r : OR) : Value := .func (.func 129) #[] #[.pointer (some ⟨r.gA, 0, none⟩)]
@[reducible] def orCells (r : OR) (e : Nat) : Array Value := #[.string r.p.name, .slice r.p.headers.A r.p.headers.l.length r.p.headers.c, .slice r.p.metadata.A r.p.metadata.l.length r.p.metadata.c,
 .slice r.p.registers.A r.p.registers.l.length r.p.registers.c, .slice r.p.actions.A r.p.actions.l.length r.p.actions.c, .slice r.p.tables.A r.p.tables.l.length r.p.tables.c,
 .slice r.p.states.A r.p.states.l.length r.p.states.c, .slice r.p.control.A r.p.control.l.length r.p.control.c, .slice r.p.deparser.A r.p.deparser.l.length r.p.deparser.c, nextF r, stepF r, .int .i64 e]
structure OEnv (W : World) (r : OR) : Prop where
 toks : LOk W 4 tkL r.x
 ok : ∀ t ∈ r.x.l, TkOk t
 few : r.x.l.length ≤ 4096
 prog : ProgOk W r.p
 a : W.heap.size ≤ r.gA
 l : W.heap.size ≤ r.gL
 rr : W.heap.size ≤ r.gR
 ar : r.gA ≠ r.gR
 la : r.gL ≠ r.gA
 lr : r.gL ≠ r.gR
def Stands (n : Nat) (at_ e : Nat) : PS → Prop
 | .ok i => at_ = i ∧ e = 0 ∧ i ≤ n
 | .bad x => e = x ∧ x ≠ 0 ∧ x < 100
structure OSt (W w0 w : World) (r : OR) (s : PS) : Prop where
 ex : ∃ at_ e : Nat, Blk w r.gR 125 (orCells r e) ∧ Blk w r.gA 3 #[.int .i64 at_] ∧ at_ ≤ 5000 ∧ Stands r.x.l.length at_ e s
 lb : Blk w r.gL 117 #[.slice r.x.A r.x.l.length r.x.c]
 gr : Gro w0 w r.gR r.gA
 base : Below W.heap.size W w
theorem OSt.refl {W w0 w : World} {r : OR} {s : PS} (h : OSt W w0 w r s) : OSt W w w r s := ⟨h.ex, h.lb, .refl _ _ _, h.base⟩
theorem OSt.below {W w0 w w' : World} {r : OR} {s : PS} (h : OSt W w0 w r s) (hb : Below w.heap.size w w') : OSt W w0 w' r s := by
 obtain ⟨a, e, h1, h2, h3⟩ := h.ex
 refine ⟨⟨a, e, h1.below hb h1.lt, h2.below hb h2.lt, h3⟩, h.lb.below hb h.lb.lt, h.gr.below hb, ?_⟩
 exact h.base.trans (hb.mono h.base.size)
theorem OSt.then {W w0 w w' : World} {r : OR} {s s' : PS} (h : OSt W w0 w r s) (h2 : OSt W w w' r s') : OSt W w0 w' r s' := ⟨h2.ex, h2.lb, h.gr.trans h2.gr, h2.base⟩
theorem OSt.set {W w0 w : World} {r : OR} {s : PS} (h : OSt W w0 w r s) {k : Nat} (hk : w0.heap.size ≤ k) (hW : W.heap.size ≤ k) (h1 : k ≠ r.gR) (h2 : k ≠ r.gA) (h3 : k ≠ r.gL) (j : Nat) (v : Value) : OSt W w0 (w.setCell ⟨k, j, none⟩ v) r s := by
 obtain ⟨a, e, b1, b2, b3⟩ := h.ex
 exact ⟨⟨a, e, b1.far (Ne.symm h1) v, b2.far (Ne.symm h2) v, b3⟩, h.lb.far (Ne.symm h3) v, h.gr.set (.inr (.inr hk)) j v, h.base.setCell hW v⟩
theorem OSt.drewN {W w0 w : World} {r : OR} {s : PS} (h : OSt W w0 w r s) (n : Nat) : OSt W w0 (w.drewN n) r s := h.below (below_drewN (Below.refl _ _) n)
theorem nxt_in {ts : List Tk} {i : Nat} (h : i < ts.length) : nxt ts i = ts[i] := by simp [nxt, h]
theorem nxt_out {ts : List Tk} {i : Nat} (h : ts.length ≤ i) : nxt ts i = Tk.zero := by simp [nxt, h]
@[reducible] def tkA (t : Tk) : Array Value := #[.int .i64 t.kind, .string ⟨t.text.toArray⟩, .int .u32 t.value, .int .i64 t.line]
theorem onext_any (x : L Tk) (i gA gL : Nat) (w : World) (hx : LOk w 4 tkL x) (hA : Blk w gA 3 #[.int .i64 i]) (hL : Blk w gL 117 #[.slice x.A x.l.length x.c]) :
  Calls Tryz.prog 128 #[.pointer (some ⟨gA, 0, none⟩), .pointer (some ⟨gL, 0, none⟩)] w fun r w' => r = .returned (.agg (tkA (nxt x.l i))) ∧ Below w.heap.size w w' := by
 have hm := hx.1
 unfold maxLen at hm
 obtain ⟨V, hV⟩ : ∃ V, V = w.alloc (.cells #[.int .i64 0, .string ⟨#[]⟩, .int .u32 0, .int .i64 0] 191) := ⟨_, rfl⟩
 have HV : Hid (Blk V w.heap.size 191 #[.int .i64 0, .string ⟨#[]⟩, .int .u32 0, .int .i64 0]) := hi_ (by rw [hV]; exact Blk.new _ _ _)
 have HwV : Hid (Below w.heap.size w V) := hi_ (by rw [hV]; exact below1 _ _)
 have c0 : V.cell? ⟨gA, 0, none⟩ = some (.int .i64 i) := (hA.below HwV.out hA.lt).cell 0
 have c1 : V.cell? ⟨gL, 0, none⟩ = some (.slice x.A x.l.length x.c) := (hL.below HwV.out hL.lt).cell 0
 have g0 : V.frozen? ⟨w.heap.size, 0, none⟩ = false := HV.out.frozen 0
 have g1 : V.frozen? ⟨w.heap.size, 1, none⟩ = false := HV.out.frozen 1
 have g2 : V.frozen? ⟨w.heap.size, 2, none⟩ = false := HV.out.frozen 2
 have g3 : V.frozen? ⟨w.heap.size, 3, none⟩ = false := HV.out.frozen 3
 have r0 : V.cell? ⟨w.heap.size, 0, none⟩ = some (.int .i64 0) := HV.out.cell 0
 have r1 : V.cell? ⟨w.heap.size, 1, none⟩ = some (.string ⟨#[]⟩) := HV.out.cell 1
 have r2 : V.cell? ⟨w.heap.size, 2, none⟩ = some (.int .u32 0) := HV.out.cell 2
 have r3 : V.cell? ⟨w.heap.size, 3, none⟩ = some (.int .i64 0) := HV.out.cell 3
 by_cases hlt : i < x.l.length
 ·
  obtain ⟨g, of, hAx, hq⟩ := TkD.atA hx hlt
  obtain ⟨d0, d1, d2, d3⟩ := hq V HwV.out
  have HR := hi_ (nxt_in hlt)
  rw [HR.out]
  clear hq HR
  rw [hAx] at c1
  generalize x.l[i] = t at *
  obtain ⟨tk, tx, tv, tl⟩ := t
  simp only at d0 d1 d2 d3 ⊢
  have hi' : (i : Int) < (x.l.length : Int) := by omega
  clear hA hL hx hAx
  go_enter Tryz.func128, Tryz.ntmps128
  go_upto_region 1 with fail
  rw [← hV]
  clear hV
  go_wp2
  refine bodyPost_ret (v := .agg (tkA ⟨tk, tx, tv, tl⟩)) ?_ rfl ?_
  · exact results_cell_row (fn := Tryz.f128) (p := 2) (ty := 191) rfl _ _ w.heap.size 191 (tkA ⟨tk, tx, tv, tl⟩) (0, 0) _ rfl (put4 HV.out _ _ _ _) Tryz.underlying191 rfl (by kernel_rfl)
  · exact ⟨rfl, put4_below HwV.out (Nat.le_refl _) _ _ _ _⟩
 ·
  have HR := hi_ (nxt_out (ts := x.l) (i := i) (by omega))
  rw [HR.out]
  clear HR
  have hi' : ¬ (i : Int) < (x.l.length : Int) := by omega
  clear hA hL hx
  go_enter Tryz.func128, Tryz.ntmps128
  go_upto_region 1 with fail
  rw [← hV]
  clear hV
  go_wp2
  refine bodyPost_ret (v := .agg (tkA Tk.zero)) ?_ rfl ?_
  · exact results_cell_row (fn := Tryz.f128) (p := 2) (ty := 191) rfl _ _ w.heap.size 191 (tkA Tk.zero) (0, 0) _ rfl (put4 HV.out _ _ _ _) Tryz.underlying191 rfl (by kernel_rfl)
  · exact ⟨rfl, put4_below HwV.out (Nat.le_refl _) _ _ _ _⟩
theorem ostep_any (i gA : Nat) (w : World) (hi : i ≤ 5000) (hA : Blk w gA 3 #[.int .i64 i]) :
  Calls Tryz.prog 129 #[.pointer (some ⟨gA, 0, none⟩)] w fun r w' => r = .returned (.tuple #[]) ∧ w' = w.setCell ⟨gA, 0, none⟩ (.int .i64 ((i + 1 : Nat) : Int)) := by
 have c0 : w.cell? ⟨gA, 0, none⟩ = some (.int .i64 i) := hA.cell 0
 have f0 : w.frozen? ⟨gA, 0, none⟩ = false := hA.frozen 0
 have hwr := wrap_nat (i := i) (by omega)
 clear hA
 go_enter Tryz.func129, Tryz.ntmps129
 go_wp2
 go_end0
 exact ⟨rfl, rfl⟩
theorem OSt.lt {W w0 w : World} {r : OR} {s : PS} (h : OSt W w0 w r s) : r.gR < w.heap.size ∧ r.gA < w.heap.size ∧ r.gL < w.heap.size := by
 obtain ⟨a, e, h1, h2, _⟩ := h.ex
 exact ⟨h1.lt, h2.lt, h.lb.lt⟩
theorem OSt.put4 {W w0 w : World} {r : OR} {s : PS} (h : OSt W w0 w r s) {k : Nat} (hk : w0.heap.size ≤ k) (hW : W.heap.size ≤ k) (h1 : k ≠ r.gR) (h2 : k ≠ r.gA) (h3 : k ≠ r.gL) (a b c d : Value) :
  OSt W w0 ((((w.setCell ⟨k, 0, none⟩ a).setCell ⟨k, 1, none⟩ b).setCell ⟨k, 2, none⟩ c).setCell ⟨k, 3, none⟩ d) r s :=
 (((h.set hk hW h1 h2 h3 0 a).set hk hW h1 h2 h3 1 b).set hk hW h1 h2 h3 2 c).set hk hW h1 h2 h3 3 d
theorem OSt.okc {W w0 w : World} {r : OR} {i : Nat} (h : OSt W w0 w r (.ok i)) : Blk w r.gR 125 (orCells r 0) ∧ Blk w r.gA 3 #[.int .i64 i] ∧ i ≤ r.x.l.length := by
 obtain ⟨a, e, h1, h2, _, rfl, rfl, h3⟩ := h.ex
 exact ⟨h1, h2, h3⟩
theorem OSt.badc {W w0 w : World} {r : OR} {x : Nat} (h : OSt W w0 w r (.bad x)) : Blk w r.gR 125 (orCells r x) ∧ x ≠ 0 := by
 obtain ⟨a, e, h1, h2, _, rfl, h3, _⟩ := h.ex
 exact ⟨h1, h3⟩
theorem OSt.err {W w0 w : World} {r : OR} {s : PS} (E : OEnv W r) (h : OSt W w0 w r s) {x : Nat} (hx : x ≠ 0 ∧ x < 100) : OSt W w0 (w.setCell ⟨r.gR, 11, none⟩ (.int .i64 x)) r (.bad x) := by
 obtain ⟨a, e, h1, h2, h3, _⟩ := h.ex
 exact ⟨⟨a, x, h1.set_ 11 (.int .i64 x), h2.far E.ar _, h3, rfl, hx.1, hx.2⟩, h.lb.far E.lr _, h.gr.set (.inl rfl) 11 _, h.base.setCell E.rr _⟩
theorem OSt.step {W w0 w : World} {r : OR} {i : Nat} (E : OEnv W r) (h : OSt W w0 w r (.ok i)) (hi : i < r.x.l.length) : OSt W w0 (w.setCell ⟨r.gA, 0, none⟩ (.int .i64 ((i + 1 : Nat) : Int))) r (.ok (i + 1)) := by
 obtain ⟨h1, h2, _⟩ := h.okc
 have := E.few
 exact ⟨⟨i + 1, 0, h1.far (Ne.symm E.ar) _, h2.set_ 0 (.int .i64 ((i + 1 : Nat) : Int)), by omega, rfl, rfl, by omega⟩, h.lb.far E.la _, h.gr.set (.inr (.inl rfl)) 0 _, h.base.setCell E.a _⟩
theorem take_ok (ts : List Tk) (k : Nat) (txt : List UInt8) (i : Nat) : takeA ts k txt (.ok i) = if (nxt ts i).kind ≠ k ∨ (txt ≠ [] ∧ (nxt ts i).text ≠ txt) then (Tk.zero, .bad 5) else (nxt ts i, .ok (i + 1)) := rfl
theorem take_res {A B : Tk × PS} (e : A = B) {W w0 w : World} {r : OR} {v : Value} (h1 : v = .agg (tkA B.1)) (h2 : OSt W w0 w r B.2) : Ending.returned v = .returned (.agg (tkA A.1)) ∧ OSt W w0 w r A.2 := by
 rw [e]; exact ⟨by rw [h1], h2⟩
theorem otake {W w0 w : World} {r : OR} {s : PS} (E : OEnv W r) (h : OSt W w0 w r s) (k : Nat) (hk : 1 ≤ k) (txt : ByteArray) :
  Calls Tryz.prog 133 #[.pointer (some ⟨r.gR, 0, none⟩), .int .i64 k, .string txt] w fun e w' => e = .returned (.agg (tkA (takeA r.x.l k txt.data.toList s).1)) ∧ OSt W w0 w' r (takeA r.x.l k txt.data.toList s).2 := by
 obtain ⟨V, hV⟩ : ∃ V, V = w.alloc (.cells #[.int .i64 0, .string ⟨#[]⟩, .int .u32 0, .int .i64 0] 191) := ⟨_, rfl⟩
 have HV : Hid (Blk V w.heap.size 191 #[.int .i64 0, .string ⟨#[]⟩, .int .u32 0, .int .i64 0]) := hi_ (by rw [hV]; exact Blk.new _ _ _)
 have HwV : Hid (Below w.heap.size w V) := hi_ (by rw [hV]; exact below1 _ _)
 have hSV := h.below HwV.out
 have HSV := hi_ hSV
 have HK := hi_ (show w0.heap.size ≤ w.heap.size ∧ W.heap.size ≤ w.heap.size ∧ w.heap.size ≠ r.gR ∧ w.heap.size ≠ r.gA ∧ w.heap.size ≠ r.gL from by have := h.lt; have := h.gr.size; have := h.base.size; omega)
 have HE := hi_ E
 obtain ⟨a, e, bR, bA, ha, hs⟩ := hSV.ex
 have HN := hi_ (onext_any r.x a r.gA r.gL V (E.toks.below hSV.base (Nat.le_refl _)) bA hSV.lb)
 have c9 : V.cell? ⟨r.gR, 10, none⟩ = some (stepF r) := bR.cell 10
 have c10 : V.cell? ⟨r.gR, 9, none⟩ = some (nextF r) := bR.cell 9
 unfold nextF at c10
 unfold stepF at c9
 have HBR := hi_ bR
 have HBA := hi_ bA
 have HNX := hi_ (fun (h : (nxt r.x.l a).kind ≠ 0) => show a < r.x.l.length from by
  rcases Nat.lt_or_ge a r.x.l.length with h1 | h1
  · exact h1
  · rw [nxt_out h1] at h; exact absurd rfl h)
 have HS : Hid ((∃ x, s = .bad x ∧ e = x ∧ x ≠ 0) ∨ (s = .ok a ∧ e = 0)) := hi_ (by
  cases s with
  | ok i => obtain ⟨rfl, rfl, _⟩ := hs; exact .inr ⟨rfl, rfl⟩
  | bad x => obtain ⟨rfl, h2, _⟩ := hs; exact .inl ⟨e, rfl, rfl, h2⟩)
 have HTK := hi_ (take_ok r.x.l k txt.data.toList a)
 clear h E hs hSV bR bA
 generalize nxt r.x.l a = t at *
 obtain ⟨tk, tx, tv, tl⟩ := t
 simp only at HN HNX HTK
 go_enter Tryz.func133, Tryz.ntmps133
 go_upto_region 1 with fail
 rw [← hV]
 clear hV
 go_wp2_with fail
 refine HN.out.mono ?_
 rintro e1 w1 ⟨rfl, hb1⟩
 have HS1 := hi_ (HSV.out.below hb1)
 have HV1 := hi_ (HV.out.below hb1 HV.out.lt)
 have HBR1 := hi_ (HBR.out.below hb1 HBR.out.lt)
 have HBA1 := hi_ (HBA.out.below hb1 HBA.out.lt)
 clear hb1 HN HSV HV HBR HBA c9 c10
 go_upto_region 2 with fail
 obtain ⟨Y, hY⟩ : ∃ Y, Y = w1.alloc (.cells #[.int .i64 tk, .string ⟨tx.toArray⟩, .int .u32 tv, .int .i64 tl] 191) := ⟨_, rfl⟩
 have HYB : Hid (Blk Y w1.heap.size 191 #[.int .i64 tk, .string ⟨tx.toArray⟩, .int .u32 tv, .int .i64 tl]) := hi_ (by rw [hY]; exact Blk.new _ _ _)
 have HBY : Hid (Below w1.heap.size w1 Y) := hi_ (by rw [hY]; exact below1 _ _)
 have HSY := hi_ (HS1.out.below HBY.out)
 have HVY := hi_ (HV1.out.below HBY.out HV1.out.lt)
 have HBRY := hi_ (HBR1.out.below HBY.out HBR1.out.lt)
 have HBAY := hi_ (HBA1.out.below HBY.out HBA1.out.lt)
 have HNY : Hid (w1.heap.size ≠ r.gR ∧ w1.heap.size ≠ r.gA ∧ w.heap.size ≠ w1.heap.size) := hi_ (by have := HS1.out.lt; have := HV1.out.lt; omega)
 rw [← hY]
 clear hY HS1 HV1 HBR1 HBA1 HBY
 have d11 : Y.cell? ⟨r.gR, 11, none⟩ = some (.int .i64 e) := HBRY.out.cell 11
 have d10 : Y.cell? ⟨r.gR, 10, none⟩ = some (stepF r) := HBRY.out.cell 10
 have f11 : Y.frozen? ⟨r.gR, 11, none⟩ = false := HBRY.out.frozen 11
 unfold stepF at d10
 have r0 : Y.cell? ⟨w.heap.size, 0, none⟩ = some (.int .i64 0) := HVY.out.cell 0
 have g0 : Y.frozen? ⟨w.heap.size, 0, none⟩ = false := HVY.out.frozen 0
 have r1 : Y.cell? ⟨w.heap.size, 1, none⟩ = some (.string ⟨#[]⟩) := HVY.out.cell 1
 have g1 : Y.frozen? ⟨w.heap.size, 1, none⟩ = false := HVY.out.frozen 1
 have r2 : Y.cell? ⟨w.heap.size, 2, none⟩ = some (.int .u32 0) := HVY.out.cell 2
 have g2 : Y.frozen? ⟨w.heap.size, 2, none⟩ = false := HVY.out.frozen 2
 have r3 : Y.cell? ⟨w.heap.size, 3, none⟩ = some (.int .i64 0) := HVY.out.cell 3
 have g3 : Y.frozen? ⟨w.heap.size, 3, none⟩ = false := HVY.out.frozen 3
 have q0 : Y.cell? ⟨w1.heap.size, 0, none⟩ = some (.int .i64 tk) := HYB.out.cell 0
 have p0 : Y.frozen? ⟨w1.heap.size, 0, none⟩ = false := HYB.out.frozen 0
 have q1 : Y.cell? ⟨w1.heap.size, 1, none⟩ = some (.string ⟨tx.toArray⟩) := HYB.out.cell 1
 have p1 : Y.frozen? ⟨w1.heap.size, 1, none⟩ = false := HYB.out.frozen 1
 have q2 : Y.cell? ⟨w1.heap.size, 2, none⟩ = some (.int .u32 tv) := HYB.out.cell 2
 have p2 : Y.frozen? ⟨w1.heap.size, 2, none⟩ = false := HYB.out.frozen 2
 have q3 : Y.cell? ⟨w1.heap.size, 3, none⟩ = some (.int .i64 tl) := HYB.out.cell 3
 have p3 : Y.frozen? ⟨w1.heap.size, 3, none⟩ = false := HYB.out.frozen 3
 rcases HS.out with ⟨x, rfl, rfl, hx⟩ | ⟨rfl, rfl⟩
 ·
  have he' : ((e : Int) != 0) = true := bne_iff_ne.2 (by omega)
  go_wp2
  refine bodyPost_ret (v := .agg (tkA Tk.zero)) ?_ rfl ?_
  · exact results_cell_row (fn := Tryz.f133) (p := 6) (ty := 191) rfl _ _ w.heap.size 191 (tkA Tk.zero) (0, 0) _ rfl (put4 HVY.out _ _ _ _) Tryz.underlying191 rfl (by kernel_rfl)
  · exact ⟨rfl, HSY.out.put4 HK.out.1 HK.out.2.1 HK.out.2.2.1 HK.out.2.2.2.1 HK.out.2.2.2.2 _ _ _ _⟩
 by_cases h1 : tk = k
 ·
  subst h1
  have HI := hi_ (HNX.out (by omega))
  by_cases h2 : txt.data.toList = []
  ·
   have HR := tr_ HTK (if_neg (by rintro (h | h); exact h rfl; exact h.1 h2))
   obtain rfl : txt = ⟨#[]⟩ := by apply ByteArray.ext; apply Array.ext'; rw [h2]
   clear h2 HTK
   go_wp2_with fail
   refine (ostep_any a r.gA Y ha HBAY.out).mono ?_
   rintro e1 w2 ⟨rfl, hw2⟩
   have HS2 : Hid (OSt W w0 w2 r (.ok (a + 1))) := hi_ (by rw [hw2]; exact HSY.out.step HE.out HI.out)
   have HV2 : Hid (Blk w2 w.heap.size 191 #[.int .i64 0, .string ⟨#[]⟩, .int .u32 0, .int .i64 0]) := hi_ (by rw [hw2]; exact HVY.out.far HK.out.2.2.2.1 _)
   have HY2 : Hid (Blk w2 w1.heap.size 191 #[.int .i64 tk, .string ⟨tx.toArray⟩, .int .u32 tv, .int .i64 tl]) := hi_ (by rw [hw2]; exact HYB.out.far HNY.out.2.1 _)
   clear hw2 d10 d11 f11 r0 r1 r2 r3 g0 g1 g2 g3 q0 q1 q2 q3 p0 p1 p2 p3
   have r0 : w2.cell? ⟨w.heap.size, 0, none⟩ = some (.int .i64 0) := HV2.out.cell 0
   have g0 : w2.frozen? ⟨w.heap.size, 0, none⟩ = false := HV2.out.frozen 0
   have r1 : w2.cell? ⟨w.heap.size, 1, none⟩ = some (.string ⟨#[]⟩) := HV2.out.cell 1
   have g1 : w2.frozen? ⟨w.heap.size, 1, none⟩ = false := HV2.out.frozen 1
   have r2 : w2.cell? ⟨w.heap.size, 2, none⟩ = some (.int .u32 0) := HV2.out.cell 2
   have g2 : w2.frozen? ⟨w.heap.size, 2, none⟩ = false := HV2.out.frozen 2
   have r3 : w2.cell? ⟨w.heap.size, 3, none⟩ = some (.int .i64 0) := HV2.out.cell 3
   have g3 : w2.frozen? ⟨w.heap.size, 3, none⟩ = false := HV2.out.frozen 3
   have q0 : w2.cell? ⟨w1.heap.size, 0, none⟩ = some (.int .i64 tk) := HY2.out.cell 0
   have p0 : w2.frozen? ⟨w1.heap.size, 0, none⟩ = false := HY2.out.frozen 0
   have q1 : w2.cell? ⟨w1.heap.size, 1, none⟩ = some (.string ⟨tx.toArray⟩) := HY2.out.cell 1
   have p1 : w2.frozen? ⟨w1.heap.size, 1, none⟩ = false := HY2.out.frozen 1
   have q2 : w2.cell? ⟨w1.heap.size, 2, none⟩ = some (.int .u32 tv) := HY2.out.cell 2
   have p2 : w2.frozen? ⟨w1.heap.size, 2, none⟩ = false := HY2.out.frozen 2
   have q3 : w2.cell? ⟨w1.heap.size, 3, none⟩ = some (.int .i64 tl) := HY2.out.cell 3
   have p3 : w2.frozen? ⟨w1.heap.size, 3, none⟩ = false := HY2.out.frozen 3
   go_wp2
   refine bodyPost_ret (v := .agg (tkA ⟨tk, tx, tv, tl⟩)) ?_ rfl ?_
   · exact results_cell_row (fn := Tryz.f133) (p := 6) (ty := 191) rfl _ _ w.heap.size 191 (tkA ⟨tk, tx, tv, tl⟩) (0, 0) _ rfl (put4 HV2.out _ _ _ _) Tryz.underlying191 rfl (by kernel_rfl)
   · exact take_res HR.out rfl (HS2.out.put4 HK.out.1 HK.out.2.1 HK.out.2.2.1 HK.out.2.2.2.1 HK.out.2.2.2.2 _ _ _ _)
  ·
   have e2 : (txt.toList == []) = false := by rw [toList_data]; exact bf_ h2
   by_cases h3 : tx = txt.data.toList
   ·
    have HR := tr_ HTK (if_neg (by rintro (h | h); exact h rfl; exact h.2 h3))
    have e3 : (tx == txt.toList) = true := by rw [tx_eq, decide_eq_true h3]
    clear h2 h3 HTK
    go_wp2_with fail
    refine (ostep_any a r.gA Y ha HBAY.out).mono ?_
    rintro e1 w2 ⟨rfl, hw2⟩
    have HS2 : Hid (OSt W w0 w2 r (.ok (a + 1))) := hi_ (by rw [hw2]; exact HSY.out.step HE.out HI.out)
    have HV2 : Hid (Blk w2 w.heap.size 191 #[.int .i64 0, .string ⟨#[]⟩, .int .u32 0, .int .i64 0]) := hi_ (by rw [hw2]; exact HVY.out.far HK.out.2.2.2.1 _)
    have HY2 : Hid (Blk w2 w1.heap.size 191 #[.int .i64 tk, .string ⟨tx.toArray⟩, .int .u32 tv, .int .i64 tl]) := hi_ (by rw [hw2]; exact HYB.out.far HNY.out.2.1 _)
    clear hw2 d10 d11 f11 r0 r1 r2 r3 g0 g1 g2 g3 q0 q1 q2 q3 p0 p1 p2 p3
    have r0 : w2.cell? ⟨w.heap.size, 0, none⟩ = some (.int .i64 0) := HV2.out.cell 0
    have g0 : w2.frozen? ⟨w.heap.size, 0, none⟩ = false := HV2.out.frozen 0
    have r1 : w2.cell? ⟨w.heap.size, 1, none⟩ = some (.string ⟨#[]⟩) := HV2.out.cell 1
    have g1 : w2.frozen? ⟨w.heap.size, 1, none⟩ = false := HV2.out.frozen 1
    have r2 : w2.cell? ⟨w.heap.size, 2, none⟩ = some (.int .u32 0) := HV2.out.cell 2
    have g2 : w2.frozen? ⟨w.heap.size, 2, none⟩ = false := HV2.out.frozen 2
    have r3 : w2.cell? ⟨w.heap.size, 3, none⟩ = some (.int .i64 0) := HV2.out.cell 3
    have g3 : w2.frozen? ⟨w.heap.size, 3, none⟩ = false := HV2.out.frozen 3
    have q0 : w2.cell? ⟨w1.heap.size, 0, none⟩ = some (.int .i64 tk) := HY2.out.cell 0
    have p0 : w2.frozen? ⟨w1.heap.size, 0, none⟩ = false := HY2.out.frozen 0
    have q1 : w2.cell? ⟨w1.heap.size, 1, none⟩ = some (.string ⟨tx.toArray⟩) := HY2.out.cell 1
    have p1 : w2.frozen? ⟨w1.heap.size, 1, none⟩ = false := HY2.out.frozen 1
    have q2 : w2.cell? ⟨w1.heap.size, 2, none⟩ = some (.int .u32 tv) := HY2.out.cell 2
    have p2 : w2.frozen? ⟨w1.heap.size, 2, none⟩ = false := HY2.out.frozen 2
    have q3 : w2.cell? ⟨w1.heap.size, 3, none⟩ = some (.int .i64 tl) := HY2.out.cell 3
    have p3 : w2.frozen? ⟨w1.heap.size, 3, none⟩ = false := HY2.out.frozen 3
    go_wp2
    refine bodyPost_ret (v := .agg (tkA ⟨tk, tx, tv, tl⟩)) ?_ rfl ?_
    · exact results_cell_row (fn := Tryz.f133) (p := 6) (ty := 191) rfl _ _ w.heap.size 191 (tkA ⟨tk, tx, tv, tl⟩) (0, 0) _ rfl (put4 HV2.out _ _ _ _) Tryz.underlying191 rfl (by kernel_rfl)
    · exact take_res HR.out rfl (HS2.out.put4 HK.out.1 HK.out.2.1 HK.out.2.2.1 HK.out.2.2.2.1 HK.out.2.2.2.2 _ _ _ _)
   ·
    have HR := tr_ HTK (if_pos (.inr ⟨h2, h3⟩))
    have e3 : (tx == txt.toList) = false := by rw [tx_eq, decide_eq_false h3]
    clear h2 h3 HTK
    go_wp2
    refine bodyPost_ret (v := .agg (tkA Tk.zero)) ?_ rfl ?_
    · exact results_cell_row (fn := Tryz.f133) (p := 6) (ty := 191) rfl _ _ w.heap.size 191 (tkA Tk.zero) (0, 0) _ rfl (put4 (HVY.out.far HK.out.2.2.1 _) _ _ _ _) Tryz.underlying191 rfl (by kernel_rfl)
    · exact take_res HR.out rfl ((HSY.out.err HE.out (x := 5) (by decide)).put4 HK.out.1 HK.out.2.1 HK.out.2.2.1 HK.out.2.2.2.1 HK.out.2.2.2.2 _ _ _ _)
 ·
  have HR := tr_ HTK (if_pos (.inl h1))
  have e1 : ((tk : Int) != (k : Int)) = true := bne_iff_ne.2 (by omega)
  clear h1 HTK
  go_wp2
  refine bodyPost_ret (v := .agg (tkA Tk.zero)) ?_ rfl ?_
  · exact results_cell_row (fn := Tryz.f133) (p := 6) (ty := 191) rfl _ _ w.heap.size 191 (tkA Tk.zero) (0, 0) _ rfl (put4 (HVY.out.far HK.out.2.2.1 _) _ _ _ _) Tryz.underlying191 rfl (by kernel_rfl)
  · exact take_res HR.out rfl ((HSY.out.err HE.out (x := 5) (by decide)).put4 HK.out.1 HK.out.2.1 HK.out.2.2.1 HK.out.2.2.2.1 HK.out.2.2.2.2 _ _ _ _)
theorem onumber {W w0 w : World} {r : OR} {s : PS} (E : OEnv W r) (h : OSt W w0 w r s) :
  Calls Tryz.prog 134 #[.pointer (some ⟨r.gR, 0, none⟩)] w fun e w' => e = .returned (.int .u32 (numA r.x.l s).1) ∧ OSt W w0 w' r (numA r.x.l s).2 := by
 have HC := hi_ (otake E h 2 (by decide) ⟨#[]⟩)
 have e0 : (⟨#[]⟩ : ByteArray).data.toList = [] := rfl
 rw [e0] at HC
 unfold numA
 generalize takeA r.x.l 2 [] s = t at *
 obtain ⟨⟨tk, tx, tv, tl⟩, s'⟩ := t
 simp only at HC ⊢
 clear h E e0
 go_enter Tryz.func134, Tryz.ntmps134
 go_wp2_with fail
 refine HC.out.mono ?_
 rintro r w1 ⟨rfl, h1⟩
 have H1 := hi_ h1
 clear h1 HC
 have htv := tk_value (.int .i64 tk) (.string ⟨tx.toArray⟩) (.int .u32 tv) (.int .i64 tl)
 go_wp2
 go_ret
 exact ⟨rfl, H1.out⟩
theorem num_le {ts : List Tk} (h : ∀ t ∈ ts, TkOk t) (s : PS) : (numA ts s).1 ≤ 4294967295 := by
 unfold numA
 cases s with
 | bad e => exact Nat.zero_le _
 | ok i =>
  rw [take_ok]
  split
  · exact Nat.zero_le _
  ·
   rcases Nat.lt_or_ge i ts.length with h1 | h1
   · rw [nxt_in h1]; exact (h _ (List.getElem_mem h1)).value
   · rw [nxt_out h1]; exact Nat.zero_le _
theorem res_bad {ts : List Tk} {names : List ByteArray} {s : PS} {t : Tk} {e : Nat} (h : takeA ts 1 [] s = (t, .bad e)) : resA ts names s = (0, .bad e) := by rw [resA, h]
theorem res_ok {ts : List Tk} {names : List ByteArray} {s : PS} {t : Tk} {i : Nat} (h : takeA ts 1 [] s = (t, .ok i)) : resA ts names s = if (lookM names ⟨t.text.toArray⟩).2 = true then ((lookM names ⟨t.text.toArray⟩).1, .ok i) else (0, .bad 8) := by rw [resA, h]
theorem res_ret {A B : Int × PS} (e : A = B) {W w0 w : World} {r : OR} {v : Value} (h1 : v = .int .i64 B.1) (h2 : OSt W w0 w r B.2) : Ending.returned v = .returned (.int .i64 A.1) ∧ OSt W w0 w r A.2 := by
 rw [e]; exact ⟨by rw [h1], h2⟩
def NamesF (F : FuncId) (names : List ByteArray) (r : OR) (gB : Nat) : Prop :=
 ∀ (u : World) (e : Nat) (i : Nat) (hi : i < names.length), Blk u r.gR 125 (orCells r e) → Blk u gB 120 #[.pointer (some ⟨r.gR, 0, none⟩)] → ProgOk u r.p →
  Calls Tryz.prog F #[.int .i64 i, .pointer (some ⟨gB, 0, none⟩)] u fun e u' => e = .returned (.string names[i]) ∧ u' = u
theorem oresolveA {W w0 w : World} {r : OR} {s : PS} (E : OEnv W r) (h : OSt W w0 w r s) (names : List ByteArray) (hn : names.length ≤ 1000) (gB : Nat) (hF : NamesF 199 names r gB)
  (hB : Blk w gB 120 #[.pointer (some ⟨r.gR, 0, none⟩)]) (n1 : gB ≠ r.gR) (n2 : gB ≠ r.gA) :
  Calls Tryz.prog 130 #[.pointer (some ⟨r.gR, 0, none⟩), .int .i64 names.length, .func (.func 199) #[] #[.pointer (some ⟨gB, 0, none⟩)]] w fun e w' => e = .returned (.int .i64 (resA r.x.l names s).1) ∧ OSt W w0 w' r (resA r.x.l names s).2 := by
 have HC := hi_ (otake E h.refl 1 (by decide) ⟨#[]⟩)
 have e0 : (⟨#[]⟩ : ByteArray).data.toList = [] := rfl
 rw [e0] at HC
 have HE := hi_ E
 have HH := hi_ h
 have HBB := hi_ hB
 have HNE := hi_ (And.intro n1 n2)
 have HF := hi_ hF
 clear h E hB n1 n2 hF e0
 rcases ht : takeA r.x.l 1 [] s with ⟨⟨tk, tx, tv, tl⟩, s'⟩
 rw [ht] at HC
 simp only at HC
 have HT := hi_ ht
 clear ht
 go_enter Tryz.func130, Tryz.ntmps130
 go_wp2_with fail
 refine HC.out.mono ?_
 rintro e1 w1 ⟨rfl, h1⟩
 have H1 := hi_ h1
 have HB1 := hi_ (h1.gr.blk HBB.out HNE.out.1 HNE.out.2)
 clear h1 HC
 go_upto_region 2 with fail
 obtain ⟨Y, hY⟩ : ∃ Y, Y = w1.alloc (.cells #[.int .i64 tk, .string ⟨tx.toArray⟩, .int .u32 tv, .int .i64 tl] 191) := ⟨_, rfl⟩
 have HBY : Hid (Below w1.heap.size w1 Y) := hi_ (by rw [hY]; exact below1 _ _)
 have HYB : Hid (Blk Y w1.heap.size 191 #[.int .i64 tk, .string ⟨tx.toArray⟩, .int .u32 tv, .int .i64 tl]) := hi_ (by rw [hY]; exact Blk.new _ _ _)
 rw [← hY]
 have HSY := hi_ (HH.out.then (H1.out.below HBY.out))
 have HB2 := hi_ (HB1.out.below HBY.out HB1.out.lt)
 have HPY := hi_ (HE.out.prog.below HSY.out.base)
 clear hY H1 HB1 HBY HBB HH
 have q1 : ∀ n, (Y.drewN n).cell? ⟨w1.heap.size, 1, none⟩ = some (.string ⟨tx.toArray⟩) := fun n => (HYB.out.drewN n).cell 1
 cases s' with
 | bad e =>
  have HR := hi_ (res_bad (names := names) HT.out)
  obtain ⟨bR, he⟩ := HSY.out.badc
  have HBR := hi_ bR
  have c11 : ∀ n, (Y.drewN n).cell? ⟨r.gR, 11, none⟩ = some (.int .i64 e) := fun n => (HBR.out.drewN n).cell 11
  have he' : ((e : Int) == 0) = false := bf_ (by omega)
  clear bR he
  go_wp2
  go_loopw [8, 12] (fun _ iv wr => ∃ k q : Nat, k ≤ names.length ∧ iv = .int .i64 k ∧ wr = Y.drewN q) (fun _ i _ => names.length - (intOf i).toNat)
  case atStart => exact ⟨0, 0, Nat.zero_le _, rfl, rfl⟩
  case round =>
   obtain ⟨k, q, hk, rfl, rfl⟩ := hrel
   by_cases hlt : k < names.length
   ·
    have hlt' : (k : Int) < (names.length : Int) := by omega
    have c11 := c11 q
    go_upto_region 5 with fail
    go_quiet (fail)
    go_wp2
    go_roundw
    case rel => exact ⟨k + 1, q + nq, by omega, by go_num, by first | rfl | rw [World.drewN_drewN]⟩
    case measure => simp [intOf]; omega
   ·
    have c11 := c11 q
    go_wp2
    go_ret
    exact res_ret HR.out rfl (HSY.out.drewN q)
 | ok i =>
  have HR := hi_ (res_ok (names := names) HT.out)
  obtain ⟨bR, bA, hi⟩ := HSY.out.okc
  have HBR := hi_ bR
  have c11 : ∀ n, (Y.drewN n).cell? ⟨r.gR, 11, none⟩ = some (.int .i64 0) := fun n => (HBR.out.drewN n).cell 11
  have f11 : ∀ n, (Y.drewN n).frozen? ⟨r.gR, 11, none⟩ = false := fun n => (HBR.out.drewN n).frozen 11
  clear bR bA hi
  go_wp2
  go_loopw [8, 12] (fun _ iv wr => ∃ k q : Nat, k ≤ names.length ∧ iv = .int .i64 k ∧ Hid (∀ j, j < k → names.getD j ByteArray.empty ≠ ⟨tx.toArray⟩) ∧ wr = Y.drewN q) (fun _ i _ => names.length - (intOf i).toNat)
  case atStart => exact ⟨0, 0, Nat.zero_le _, rfl, hi_ (fun j h => absurd h (Nat.not_lt_zero _)), rfl⟩
  case round =>
   obtain ⟨k, q, hk, rfl, HPre, rfl⟩ := hrel
   by_cases hlt : k < names.length
   ·
    have hlt' : (k : Int) < (names.length : Int) := by omega
    have c11 := c11 q
    have q1 := q1 q
    have HN : Hid (names.getD k ByteArray.empty = names[k]) := hi_ (by simp [hlt])
    have HCF := hi_ (fun n => (HF.out (Y.drewN (q + n)) 0 k hlt (HBR.out.drewN _) (HB2.out.drewN _) (HPY.out.below (below_drewN (Below.refl _ _) _))).mono (fun _ _ h => (⟨h.1, n, h.2⟩ : _ ∧ ∃ m, _ = Y.drewN (q + m))))
    generalize names[k] = y at *
    by_cases hy : y = ⟨tx.toArray⟩
    ·
     have HR2 : Hid (resA r.x.l names s = ((k : Int), .ok i)) := hi_ (by
      have e := Lib.idxOfS_hit names names.length k ⟨tx.toArray⟩ hlt (Nat.le_refl _) (HN.out.trans hy) HPre.out
      rw [List.take_length] at e
      have e2 : lookM names ⟨tx.toArray⟩ = ((k : Int), true) := by rw [lookM, e, if_neg (by omega)]
      rw [HR.out, e2, if_pos rfl])
     subst hy
     clear HR
     go_upto_region 5 with fail
     go_quiet (exact HCF.out _)
     go_wp2
     go_ret
     exact res_ret HR2.out rfl (by first | exact (HSY.out.drewN q).drewN nq | exact HSY.out.drewN _)
    ·
     have HP2 : Hid (∀ j, j < k + 1 → names.getD j ByteArray.empty ≠ ⟨tx.toArray⟩) := hi_ (fun j hj => by
      rcases Nat.lt_or_ge j k with h | h
      · exact HPre.out j h
      ·
       have e : j = k := by omega
       subst e
       rw [HN.out]; exact hy)
     have hy1 : (y.toList == tx) = false := bf_ (fun e => hy (by
      rw [toList_data] at e
      rw [← e]))
     clear hy HN HPre
     go_upto_region 5 with fail
     go_quiet (exact HCF.out _)
     go_wp2
     go_roundw
     case rel => exact ⟨k + 1, q + nq, by omega, by go_num, HP2, by first | rfl | rw [World.drewN_drewN]⟩
     case measure => simp [intOf]; omega
   ·
    have HR2 : Hid (resA r.x.l names s = (0, .bad 8)) := hi_ (by
     have e := Lib.idxOfS_miss names names.length ⟨tx.toArray⟩ (fun j hj => HPre.out j (by omega))
     rw [List.take_length] at e
     have e2 : lookM names ⟨tx.toArray⟩ = (0, false) := by rw [lookM, e, if_pos (by decide)]
     rw [HR.out, e2, if_neg (by simp)])
    have c11 := c11 q
    have f11 := f11 q
    go_wp2
    go_ret
    exact res_ret HR2.out rfl ((HSY.out.drewN q).err HE.out (by decide))
theorem oresolveT {W w0 w : World} {r : OR} {s : PS} (E : OEnv W r) (h : OSt W w0 w r s) (names : List ByteArray) (hn : names.length ≤ 1000) (gB : Nat) (hF : NamesF 131 names r gB)
  (hB : Blk w gB 120 #[.pointer (some ⟨r.gR, 0, none⟩)]) (n1 : gB ≠ r.gR) (n2 : gB ≠ r.gA) :
  Calls Tryz.prog 130 #[.pointer (some ⟨r.gR, 0, none⟩), .int .i64 names.length, .func (.func 131) #[] #[.pointer (some ⟨gB, 0, none⟩)]] w fun e w' => e = .returned (.int .i64 (resA r.x.l names s).1) ∧ OSt W w0 w' r (resA r.x.l names s).2 := by
 have HC := hi_ (otake E h.refl 1 (by decide) ⟨#[]⟩)
 have e0 : (⟨#[]⟩ : ByteArray).data.toList = [] := rfl
 rw [e0] at HC
 have HE := hi_ E
 have HH := hi_ h
 have HBB := hi_ hB
 have HNE := hi_ (And.intro n1 n2)
 have HF := hi_ hF
 clear h E hB n1 n2 hF e0
 rcases ht : takeA r.x.l 1 [] s with ⟨⟨tk, tx, tv, tl⟩, s'⟩
 rw [ht] at HC
 simp only at HC
 have HT := hi_ ht
 clear ht
 go_enter Tryz.func130, Tryz.ntmps130
 go_wp2_with fail
 refine HC.out.mono ?_
 rintro e1 w1 ⟨rfl, h1⟩
 have H1 := hi_ h1
 have HB1 := hi_ (h1.gr.blk HBB.out HNE.out.1 HNE.out.2)
 clear h1 HC
 go_upto_region 2 with fail
 obtain ⟨Y, hY⟩ : ∃ Y, Y = w1.alloc (.cells #[.int .i64 tk, .string ⟨tx.toArray⟩, .int .u32 tv, .int .i64 tl] 191) := ⟨_, rfl⟩
 have HBY : Hid (Below w1.heap.size w1 Y) := hi_ (by rw [hY]; exact below1 _ _)
 have HYB : Hid (Blk Y w1.heap.size 191 #[.int .i64 tk, .string ⟨tx.toArray⟩, .int .u32 tv, .int .i64 tl]) := hi_ (by rw [hY]; exact Blk.new _ _ _)
 rw [← hY]
 have HSY := hi_ (HH.out.then (H1.out.below HBY.out))
 have HB2 := hi_ (HB1.out.below HBY.out HB1.out.lt)
 have HPY := hi_ (HE.out.prog.below HSY.out.base)
 clear hY H1 HB1 HBY HBB HH
 have q1 : ∀ n, (Y.drewN n).cell? ⟨w1.heap.size, 1, none⟩ = some (.string ⟨tx.toArray⟩) := fun n => (HYB.out.drewN n).cell 1
 cases s' with
 | bad e =>
  have HR := hi_ (res_bad (names := names) HT.out)
  obtain ⟨bR, he⟩ := HSY.out.badc
  have HBR := hi_ bR
  have c11 : ∀ n, (Y.drewN n).cell? ⟨r.gR, 11, none⟩ = some (.int .i64 e) := fun n => (HBR.out.drewN n).cell 11
  have he' : ((e : Int) == 0) = false := bf_ (by omega)
  clear bR he
  go_wp2
  go_loopw [8, 12] (fun _ iv wr => ∃ k q : Nat, k ≤ names.length ∧ iv = .int .i64 k ∧ wr = Y.drewN q) (fun _ i _ => names.length - (intOf i).toNat)
  case atStart => exact ⟨0, 0, Nat.zero_le _, rfl, rfl⟩
  case round =>
   obtain ⟨k, q, hk, rfl, rfl⟩ := hrel
   by_cases hlt : k < names.length
   ·
    have hlt' : (k : Int) < (names.length : Int) := by omega
    have c11 := c11 q
    go_upto_region 5 with fail
    go_quiet (fail)
    go_wp2
    go_roundw
    case rel => exact ⟨k + 1, q + nq, by omega, by go_num, by first | rfl | rw [World.drewN_drewN]⟩
    case measure => simp [intOf]; omega
   ·
    have c11 := c11 q
    go_wp2
    go_ret
    exact res_ret HR.out rfl (HSY.out.drewN q)
 | ok i =>
  have HR := hi_ (res_ok (names := names) HT.out)
  obtain ⟨bR, bA, hi⟩ := HSY.out.okc
  have HBR := hi_ bR
  have c11 : ∀ n, (Y.drewN n).cell? ⟨r.gR, 11, none⟩ = some (.int .i64 0) := fun n => (HBR.out.drewN n).cell 11
  have f11 : ∀ n, (Y.drewN n).frozen? ⟨r.gR, 11, none⟩ = false := fun n => (HBR.out.drewN n).frozen 11
  clear bR bA hi
  go_wp2
  go_loopw [8, 12] (fun _ iv wr => ∃ k q : Nat, k ≤ names.length ∧ iv = .int .i64 k ∧ Hid (∀ j, j < k → names.getD j ByteArray.empty ≠ ⟨tx.toArray⟩) ∧ wr = Y.drewN q) (fun _ i _ => names.length - (intOf i).toNat)
  case atStart => exact ⟨0, 0, Nat.zero_le _, rfl, hi_ (fun j h => absurd h (Nat.not_lt_zero _)), rfl⟩
  case round =>
   obtain ⟨k, q, hk, rfl, HPre, rfl⟩ := hrel
   by_cases hlt : k < names.length
   ·
    have hlt' : (k : Int) < (names.length : Int) := by omega
    have c11 := c11 q
    have q1 := q1 q
    have HN : Hid (names.getD k ByteArray.empty = names[k]) := hi_ (by simp [hlt])
    have HCF := hi_ (fun n => (HF.out (Y.drewN (q + n)) 0 k hlt (HBR.out.drewN _) (HB2.out.drewN _) (HPY.out.below (below_drewN (Below.refl _ _) _))).mono (fun _ _ h => (⟨h.1, n, h.2⟩ : _ ∧ ∃ m, _ = Y.drewN (q + m))))
    generalize names[k] = y at *
    by_cases hy : y = ⟨tx.toArray⟩
    ·
     have HR2 : Hid (resA r.x.l names s = ((k : Int), .ok i)) := hi_ (by
      have e := Lib.idxOfS_hit names names.length k ⟨tx.toArray⟩ hlt (Nat.le_refl _) (HN.out.trans hy) HPre.out
      rw [List.take_length] at e
      have e2 : lookM names ⟨tx.toArray⟩ = ((k : Int), true) := by rw [lookM, e, if_neg (by omega)]
      rw [HR.out, e2, if_pos rfl])
     subst hy
     clear HR
     go_upto_region 5 with fail
     go_quiet (exact HCF.out _)
     go_wp2
     go_ret
     exact res_ret HR2.out rfl (by first | exact (HSY.out.drewN q).drewN nq | exact HSY.out.drewN _)
    ·
     have HP2 : Hid (∀ j, j < k + 1 → names.getD j ByteArray.empty ≠ ⟨tx.toArray⟩) := hi_ (fun j hj => by
      rcases Nat.lt_or_ge j k with h | h
      · exact HPre.out j h
      ·
       have e : j = k := by omega
       subst e
       rw [HN.out]; exact hy)
     have hy1 : (y.toList == tx) = false := bf_ (fun e => hy (by
      rw [toList_data] at e
      rw [← e]))
     clear hy HN HPre
     go_upto_region 5 with fail
     go_quiet (exact HCF.out _)
     go_wp2
     go_roundw
     case rel => exact ⟨k + 1, q + nq, by omega, by go_num, HP2, by first | rfl | rw [World.drewN_drewN]⟩
     case measure => simp [intOf]; omega
   ·
    have HR2 : Hid (resA r.x.l names s = (0, .bad 8)) := hi_ (by
     have e := Lib.idxOfS_miss names names.length ⟨tx.toArray⟩ (fun j hj => HPre.out j (by omega))
     rw [List.take_length] at e
     have e2 : lookM names ⟨tx.toArray⟩ = (0, false) := by rw [lookM, e, if_pos (by decide)]
     rw [HR.out, e2, if_neg (by simp)])
    have c11 := c11 q
    have f11 := f11 q
    go_wp2
    go_ret
    exact res_ret HR2.out rfl ((HSY.out.drewN q).err HE.out (by decide))
theorem news_allocO (W : World) (g : Nat) (hg : g = W.heap.size) (cs : List Value) (t : TypeId) : ∀ j u, cs[j]? = some u → (W.alloc (.cells cs.toArray t)).cell? ((⟨g, 0, none⟩ : Addr).add j) = some u := by
 intro j u hj
 subst hg
 have h := (Blk.new W t cs.toArray).cell j
 have e : (⟨W.heap.size, 0, none⟩ : Addr).add j = ⟨W.heap.size, j, none⟩ := by unfold Addr.add; split <;> simp_all
 rw [e, h]
 simpa using hj
theorem own_setO {w : World} {base : Nat} {e : TypeId} {size : Nat} {v : Value} {n : Nat} {xs : List Value} (h : w.ownsRow base e size v n xs) {p : Addr} (hp : v.ownBlock ≠ some p.block) (u : Value) : (w.setCell p u).ownsRow base e size v n xs := by
 refine h.kept (row := some p.block) ⟨rfl, rfl, rfl, by simp [World.setCell], fun k _ hk => Below.heap_setCell w p u k (fun e => hk (by rw [e]))⟩ (.inr hp)
theorem row_sliceO {w : World} {B : Nat} {t : TypeId} {k : Nat} {v : Value} {n : Nat} {xs : List Value} (h : w.ownsRow B t k v n xs) : ∃ A c, v = .slice A n c := by
 rcases h.2 with ⟨hv, h0⟩ | ⟨g', cap, cur, hv, _, _, _⟩
 · exact ⟨none, 0, by rw [hv, h0]⟩
 · exact ⟨_, _, hv⟩
theorem own_ltO {w : World} {B : Nat} {t : TypeId} {k : Nat} {v : Value} {n : Nat} {xs : List Value} (h : w.ownsRow B t k v n xs) : ∀ g, v.ownBlock = some g → B ≤ g ∧ g < w.heap.size := by
 intro g hg
 rcases h.2 with ⟨e2, _⟩ | ⟨g', cap, cur, e2, hb, hh, _⟩
 · rw [e2] at hg; cases hg
 ·
  rw [e2] at hg
  simp only [Value.ownBlock, Option.some.injEq] at hg
  subst hg
  exact ⟨hb, (Array.getElem?_eq_some_iff.1 hh).1⟩
theorem ownsRow_gro {w w' : World} {a b base : Nat} {e : TypeId} {size : Nat} {v : Value} {n : Nat} {xs : List Value} (h : w.ownsRow base e size v n xs) (hg : Gro w w' a b) (ha : a < base) (hb : b < base) : w'.ownsRow base e size v n xs := by
 refine ⟨h.1, ?_⟩
 rcases h.2 with h0 | ⟨g, cap, cur, rfl, hbg, hgg, h1, h2, h3, h4⟩
 · exact .inl h0
 · exact .inr ⟨g, cap, cur, rfl, hbg, (hg.block g (Array.getElem?_eq_some_iff.1 hgg).1 (by omega) (by omega)).trans hgg, h1, h2, h3, h4⟩
theorem OSt.above {W w0 w w' : World} {r : OR} {s : PS} {base : Nat} (h : OSt W w0 w r s) (hb : Below base w w') (h0 : w0.heap.size ≤ base) (hW : W.heap.size ≤ base) (h1 : r.gR < base ∧ r.gA < base ∧ r.gL < base) : OSt W w0 w' r s := by
 obtain ⟨a, e, b1, b2, b3⟩ := h.ex
 refine ⟨⟨a, e, (hb.block _ h1.1).trans b1, (hb.block _ h1.2.1).trans b2, b3⟩, (hb.block _ h1.2.2).trans h.lb, ?_, h.base.trans (hb.mono hW)⟩
 exact ⟨hb.os.trans h.gr.os, hb.tape.trans h.gr.tape, hb.output.trans h.gr.output, Nat.le_trans h.gr.size hb.size, fun k hk n1 n2 => (hb.block k (by omega)).trans (h.gr.block k hk n1 n2)⟩
def FuelO (m n : Nat) : PS → Prop
 | .ok i => m < i + n
 | .bad _ => 1 ≤ n
theorem FuelO.pos {m n : Nat} {s : PS} (h : FuelO m n s) (hs : ∀ i, s = .ok i → i ≤ m) : 1 ≤ n := by
 cases s with
 | ok i => have := hs i rfl; have h2 : m < i + n := h; omega
 | bad e => exact h
theorem keys_bad (ts : List Tk) (n : Nat) (l : List KmD) (e : Nat) : keysA ts n l (.bad e) = (l, .bad e) := by
 cases n <;> rfl
theorem keys_ok (ts : List Tk) (n : Nat) (l : List KmD) (i : Nat) : keysA ts (n + 1) l (.ok i) = if (nxt ts i).kind = 2 then keysA ts n (l ++ [⟨(numA ts (.ok i)).1, (numA ts (stepA ts 3 [47] (numA ts (.ok i)).2)).1⟩]) (numA ts (stepA ts 3 [47] (numA ts (.ok i)).2)).2 else (l, .ok i) := rfl
theorem take_stepO (ts : List Tk) (k : Nat) (hk : 1 ≤ k) (txt : List UInt8) (s : PS) : (∃ e, (takeA ts k txt s).2 = .bad e) ∨ ∃ i, s = .ok i ∧ i < ts.length ∧ (takeA ts k txt s).2 = .ok (i + 1) := by
 cases s with
 | bad e => exact .inl ⟨e, rfl⟩
 | ok i =>
  rw [take_ok]
  split
  · exact .inl ⟨5, rfl⟩
  ·
   rename_i h
   refine .inr ⟨i, rfl, ?_, rfl⟩
   rcases Nat.lt_or_ge i ts.length with h1 | h1
   · exact h1
   ·
    exfalso
    apply h
    left
    rw [nxt_out h1]
    intro h2
    exact absurd h2 (by show (0 : Nat) ≠ k; omega)
theorem fuel_take {m n : Nat} {ts : List Tk} {k : Nat} {txt : List UInt8} {s : PS} (hk : 1 ≤ k) (hn : 1 ≤ n) (h : FuelO m (n + 1) s) : FuelO m n (takeA ts k txt s).2 := by
 rcases take_stepO ts k hk txt s with ⟨e, h1⟩ | ⟨i, rfl, _, h1⟩
 · rw [h1]; exact hn
 · rw [h1]; have h2 : m < i + (n + 1) := h; show m < i + 1 + n; omega
theorem fuel_keep {m n : Nat} {ts : List Tk} {k : Nat} {txt : List UInt8} {s : PS} (hk : 1 ≤ k) (hn : 1 ≤ n) (h : FuelO m n s) : FuelO m n (takeA ts k txt s).2 := by
 rcases take_stepO ts k hk txt s with ⟨e, h1⟩ | ⟨i, rfl, _, h1⟩
 · rw [h1]; exact hn
 · rw [h1]; have h2 : m < i + n := h; show m < i + 1 + n; omega
theorem info_km : (Tryz.prog.info? 68).map (fun i => (i.zero, i.size, i.bytes)) = some (some (.agg #[.int .u32 0, .int .u32 0]), 2, 8) := by kernel_rfl
def leftO : Value → Nat
 | .slice _ n _ => 5000 - n
 | _ => 0
@[reducible] def pR (r : OR) : Value := .pointer (some ⟨r.gR, 0, none⟩)
theorem tk_kindO (a b c d : Value) (w : World) : (Instr.field 191 (.agg #[a, b, c, d]) 0).run Tryz.prog w = .ok a w := by kernel_rfl
def KeysEnd (W w : World) (r : OR) (R : List KmD × PS) (e : Ending) (w' : World) : Prop :=
 ∃ A c, e = .returned (.slice A R.1.length c) ∧ w'.ownsRow w.heap.size 68 2 (.slice A R.1.length c) R.1.length (R.1.flatMap KmD.cells) ∧ OSt W w w' r R.2
theorem okeys {W w : World} {r : OR} {s : PS} (E : OEnv W r) (h : OSt W w w r s) :
  Calls Tryz.prog 132 #[.pointer (some ⟨r.gR, 0, none⟩)] w (KeysEnd W w r (keysA r.x.l (r.x.l.length + 2) [] s)) := by
 have HE := hi_ E
 have HLT := hi_ h.lt
 have HH := hi_ h
 have HFew := hi_ E.few
 have HBW := hi_ h.base.size
 obtain ⟨m, hm⟩ : ∃ m, m = r.x.l.length := ⟨_, rfl⟩
 have HM := hi_ hm
 obtain ⟨R, hR⟩ : ∃ R, R = keysA r.x.l (r.x.l.length + 2) [] s := ⟨_, rfl⟩
 rw [← hR]
 have HR : Hid (keysA r.x.l (m + 2) [] s = R) := hi_ (by rw [hR, hm])
 have HF : Hid (FuelO m (m + 2) s) := hi_ (by
  cases s with
  | ok i => show m < i + (m + 2); omega
  | bad e => show 1 ≤ m + 2; omega)
 clear hR hm E h
 obtain ⟨i0, hi, hz0, hz1, hz2⟩ := info_parts info_km
 go_enter Tryz.func132, Tryz.ntmps132
 go_wp2
 go_loopw [3, 4] (fun lv _ wr => ∃ (n : Nat) (l : List KmD) (A : Option Addr) (c : Nat) (s : PS), lv = .slice A l.length c ∧ l.length + n ≤ m + 2 ∧ Hid (FuelO m n s) ∧ Hid (keysA r.x.l n l s = R) ∧ Hid (wr.ownsRow w.heap.size 68 2 (.slice A l.length c) l.length (l.flatMap KmD.cells)) ∧ Hid (OSt W w wr r s))
  (fun lv _ _ => leftO lv)
 case atStart => exact ⟨m + 2, [], none, 0, s, rfl, by simp, HF, HR, hi_ (World.ownsRow_nil _ _ _ _), HH⟩
 case round =>
  obtain ⟨n, l, A, c, s, rfl, hln, HF, HR, HOw, HS⟩ := hrel
  clear HH
  cases s with
  | bad e =>
   obtain ⟨bR, he⟩ := HS.out.badc
   have c11 : wr.cell? ⟨r.gR, 11, none⟩ = some (.int .i64 e) := bR.cell 11
   have he' : ((e : Int) == 0) = false := bf_ (by omega)
   have HR2 : Hid (R = (l, .bad e)) := hi_ (by rw [← HR.out, keys_bad])
   clear bR he HR
   go_wp2
   go_ret
   rw [HR2.out]
   exact ⟨A, c, rfl, HOw.out, HS.out⟩
  | ok i =>
   obtain ⟨bR, bA, hi1⟩ := HS.out.okc
   have hn1 : 1 ≤ n := HF.out.pos (fun j hj => by injection hj with hj; rw [← hj, HM.out]; exact hi1)
   obtain ⟨n, rfl⟩ : ∃ k, n = k + 1 := ⟨n - 1, by omega⟩
   have c11 : wr.cell? ⟨r.gR, 11, none⟩ = some (.int .i64 0) := bR.cell 11
   have c10 : wr.cell? ⟨r.gR, 9, none⟩ = some (nextF r) := bR.cell 9
   unfold nextF at c10
   have HN := hi_ (onext_any r.x i r.gA r.gL wr (HE.out.toks.below HS.out.base (Nat.le_refl _)) bA HS.out.lb)
   have HK := hi_ (keys_ok r.x.l n l i)
   have HTK : Hid ((nxt r.x.l i).kind = 2 → i < r.x.l.length) := hi_ (fun h2 => by
    rcases Nat.lt_or_ge i r.x.l.length with h1 | h1
    · exact h1
    · rw [nxt_out h1] at h2; cases h2)
   clear bR bA hi1 hn1
   by_cases hk : (nxt r.x.l i).kind = 2
   ·
    have HR2 := hi_ (HR.out.symm.trans (HK.out.trans (if_pos hk)))
    have HIL := hi_ (HTK.out hk)
    have hkk : (((nxt r.x.l i).kind : Int) == 2) = true := beq_iff_eq.2 (by omega)
    have HF1 : Hid (FuelO m n (numA r.x.l (.ok i)).2) := hi_ (by
     have h1 := HF.out
     have h2 : m < i + (n + 1) := h1
     have h3 := HM.out
     have h4 := HIL.out
     exact fuel_take (by decide) (by omega) h1)
    have HN1 : Hid (1 ≤ n) := hi_ (by have h2 : m < i + (n + 1) := HF.out; have := HM.out; have := HIL.out; omega)
    clear hk HR HK HF HTK
    generalize nxt r.x.l i = t at *
    obtain ⟨tk, tx, tv, tl⟩ := t
    simp only at hkk HN
    go_wp2_with fail
    refine HN.out.mono ?_
    rintro e1 w1 ⟨rfl, hb1⟩
    have hfk := tk_kindO (.int .i64 tk) (.string ⟨tx.toArray⟩) (.int .u32 tv) (.int .i64 tl)
    have HS1 := hi_ (HS.out.below hb1)
    have HOw1 := hi_ (ownsRow_below HOw.out hb1)
    have HSz1 := hi_ (show wr.heap.size ≤ w1.heap.size from hb1.size)
    clear hb1 HN c11 c10
    go_wp2_with fail
    refine (onumber HE.out HS1.out.refl).mono ?_
    rintro e1 w2 ⟨rfl, h2⟩
    have HS2 := hi_ (HS1.out.then h2)
    have HOw2 := hi_ (ownsRow_gro HOw1.out h2.gr (by have := HLT.out; omega) (by have := HLT.out; omega))
    clear h2 HOw1 HS1
    rcases hnu : numA r.x.l (.ok i) with ⟨v1, s1⟩
    rw [hnu] at HR2 HF1 HS2
    simp only at HR2 HF1 HS2 ⊢
    clear hnu
    go_upto_region 4 with fail
    obtain ⟨Y, hY⟩ : ∃ Y, Y = w2.alloc (.cells #[.int .u32 v1, .int .u32 0] 68) := ⟨_, rfl⟩
    have HYB : Hid (Blk Y w2.heap.size 68 #[.int .u32 v1, .int .u32 0]) := hi_ (by rw [hY]; exact Blk.new _ _ _)
    have HBY : Hid (Below w2.heap.size w2 Y) := hi_ (by rw [hY]; exact below1 _ _)
    rw [← hY]
    clear hY
    have HSY := hi_ (HS2.out.below HBY.out)
    have HOwY := hi_ (ownsRow_below HOw2.out HBY.out)
    have HNE : Hid (w2.heap.size ≠ r.gR ∧ w2.heap.size ≠ r.gA ∧ w2.heap.size ≠ r.gL ∧ w.heap.size ≤ w2.heap.size ∧ W.heap.size ≤ w2.heap.size) := hi_ (by
     have h1 := HS2.out.lt
     have h2 := HS2.out.gr.size
     have h3 := HBW.out
     omega)
    have HOl := hi_ (own_ltO HOw2.out)
    have HOb : Hid ((Value.slice A l.length c).ownBlock ≠ some w2.heap.size) := hi_ (fun e => by have := (HOl.out _ e).2; omega)
    have HT4 := hi_ (otake HE.out HSY.out.refl (s := s1) 3 (by decide) ⟨#[47]⟩)
    rw [show (⟨#[47]⟩ : ByteArray).data.toList = [47] from rfl] at HT4
    clear HS2 HOw2 HOl
    go_wp2_with fail
    refine HT4.out.mono ?_
    rintro e1 w3 ⟨rfl, h3⟩
    have HS3 := hi_ (HSY.out.then h3)
    have HOw3 := hi_ (ownsRow_gro HOwY.out h3.gr (by have := HLT.out; omega) (by have := HLT.out; omega))
    have HB3 := hi_ (h3.gr.blk HYB.out HNE.out.1 HNE.out.2.1)
    clear h3 HSY HOwY HYB HT4 HBY
    have HF2 : Hid (FuelO m n (stepA r.x.l 3 [47] s1)) := hi_ (fuel_keep (by decide) HN1.out HF1.out)
    have HSS : Hid ((takeA r.x.l 3 [47] s1).2 = stepA r.x.l 3 [47] s1) := hi_ rfl
    rw [HSS.out] at HS3
    generalize stepA r.x.l 3 [47] s1 = s2 at *
    clear HSS HF1
    go_wp2_with fail
    refine (onumber HE.out HS3.out.refl).mono ?_
    rintro e1 w4 ⟨rfl, h4⟩
    have HS4 := hi_ (HS3.out.then h4)
    have HOw4 := hi_ (ownsRow_gro HOw3.out h4.gr (by have := HLT.out; omega) (by have := HLT.out; omega))
    have HB4 := hi_ (h4.gr.blk HB3.out HNE.out.1 HNE.out.2.1)
    have HF3 : Hid (FuelO m n (numA r.x.l s2).2) := hi_ (fuel_keep (by decide) HN1.out HF2.out)
    clear h4 HS3 HOw3 HB3 HF2
    generalize numA r.x.l s2 = q at *
    obtain ⟨v2, s3⟩ := q
    simp only at HR2 HF3 HS4 ⊢
    have r1 : w4.cell? ⟨w2.heap.size, 1, none⟩ = some (.int .u32 0) := HB4.out.cell 1
    have g1 : w4.frozen? ⟨w2.heap.size, 1, none⟩ = false := HB4.out.frozen 1
    go_upto_region 6 with fail
    obtain ⟨Z, hZ⟩ : ∃ Z, Z = w4.setCell ⟨w2.heap.size, 1, none⟩ (.int .u32 v2) := ⟨_, rfl⟩
    have HZB : Hid (Blk Z w2.heap.size 68 #[.int .u32 v1, .int .u32 v2]) := hi_ (by rw [hZ]; exact HB4.out.set_ 1 (.int .u32 v2))
    have HSZ : Hid (OSt W w Z r s3) := hi_ (by rw [hZ]; exact HS4.out.set HNE.out.2.2.2.1 HNE.out.2.2.2.2 HNE.out.1 HNE.out.2.1 HNE.out.2.2.1 1 _)
    have HOwZ : Hid (Z.ownsRow w.heap.size 68 2 (.slice A l.length c) l.length (l.flatMap KmD.cells)) := hi_ (by rw [hZ]; exact own_setO HOw4.out (p := ⟨w2.heap.size, 1, none⟩) HOb.out _)
    have HZs : Hid (w.heap.size ≤ Z.heap.size) := hi_ HSZ.out.gr.size
    rw [← hZ]
    clear hZ HS4 HOw4 HB4 r1 g1
    have k0 : Z.cell? ⟨w2.heap.size, 0, none⟩ = some (.int .u32 v1) := HZB.out.cell 0
    have k1 : Z.cell? ⟨w2.heap.size, 1, none⟩ = some (.int .u32 v2) := HZB.out.cell 1
    have HLn := hi_ (show l.length ≤ 4098 by have := HM.out; have := HFew.out; omega)
    go_wp2_with (first
     | (at_builtin; refine wpList_append_own _ rfl _ _ 32 rfl w.heap.size 68 i0 _ 2 8 Tryz.underlying32 hi hz0 hz1 hz2 rfl (by decide) _ _ _ rfl (HOwZ.out.alloc _) ⟨Z.heap.size, 0, none⟩ 1 1 [.int .u32 v1, .int .u32 v2] rfl rfl ?c1 ?c2 ?c3 ?c4 ?c5 ?_))
    case c1 => exact news_allocO _ _ (by simp) [_, _] _
    case c2 => intro u hu; simp at hu; rcases hu with rfl | rfl <;> rfl
    case c3 => have := HLn.out; unfold maxLen; omega
    case c4 => have := HLn.out; omega
    case c5 => have := HZs.out; simp; omega
    intro v' w6 hown6 hgrow _
    have HS6 : Hid (OSt W w w6 r s3) := hi_ (HSZ.out.above (((Below.refl w.heap.size Z).alloc HZs.out _).trans (grown_below (HOwZ.out.alloc _) hgrow (by have := HZs.out; simp; omega))) (Nat.le_refl _) HBW.out HLT.out)
    obtain ⟨A', c', rfl⟩ := row_sliceO hown6
    have HO6 : Hid (w6.ownsRow w.heap.size 68 2 (.slice A' (l ++ [(⟨v1, v2⟩ : KmD)]).length c') (l ++ [(⟨v1, v2⟩ : KmD)]).length ((l ++ [(⟨v1, v2⟩ : KmD)]).flatMap KmD.cells)) := hi_ (by
     rw [List.length_append, List.flatMap_append]; exact hown6)
    clear hown6 hgrow HSZ HOwZ HZB k0 k1
    go_wp2
    go_roundw
    case rel => exact ⟨n, l ++ [⟨v1, v2⟩], A', c', s3, by rw [List.length_append]; rfl, by rw [List.length_append]; simp; omega, HF3, hi_ HR2.out.symm, HO6, HS6⟩
    case measure => have := HLn.out; simp [leftO]; omega
   ·
    have HR2 : Hid (R = (l, .ok i)) := hi_ (HR.out.symm.trans (HK.out.trans (if_neg hk)))
    have hkk : (((nxt r.x.l i).kind : Int) == 2) = false := bf_ (by omega)
    clear hk HR HK HF HTK
    generalize nxt r.x.l i = t at *
    obtain ⟨tk, tx, tv, tl⟩ := t
    simp only at hkk HN
    go_wp2_with fail
    refine HN.out.mono ?_
    rintro e1 w1 ⟨rfl, hb1⟩
    have hfk := tk_kindO (.int .i64 tk) (.string ⟨tx.toArray⟩) (.int .u32 tv) (.int .i64 tl)
    have HS1 := hi_ (HS.out.below hb1)
    have HOw1 := hi_ (ownsRow_below HOw.out hb1)
    clear hb1 HN c11 c10
    go_wp2
    go_ret
    rw [HR2.out]
    exact ⟨A, c, rfl, HOw1.out, HS1.out⟩
def decS (v : Int) : ByteArray := ⟨(decI v).toArray⟩
theorem decS_list (l : List Int) : (l.map decS).map (fun s => s.data.toList) = l.map decI := by
 rw [List.map_map]; rfl
theorem join_any (l : List ByteArray) (sep : ByteArray) (w : World) {B : Nat} {A : Option Addr} {c : Nat} (h : w.ownsRow B 9 1 (.slice A l.length c) l.length (strs l)) (hN : l.length ≤ 1000) (hlen : (Lib.join (l.map (·.data.toList)) sep.data.toList).length ≤ 140737488355328) :
  Calls Tryz.prog 48 #[.slice A l.length c, .string sep] w fun e w' => e = .returned (.string ⟨(Lib.join (l.map (·.data.toList)) sep.data.toList).toArray⟩) ∧ Below w.heap.size w w' := by
 have hs : Strs w A c l := OwnStrs.strs (w := w) (B := B) (A := A) (c := c) (l := l) h
 rcases hs with h0 | ⟨g, rfl, h1, h2, h3⟩
 ·
  obtain rfl := List.length_eq_zero_iff.1 h0
  exact (Tryz.strings_Join_none A c sep w).mono fun e w' h => ⟨h.1, by rw [h.2]; exact Below.refl _ _⟩
 ·
  refine Tryz.strings_Join g 0 c l sep w (fun j x hx => ?_) h1 (by omega) h2 hlen
  have hj := (List.getElem?_eq_some_iff.1 hx).1
  rw [h3 j hj, List.getD_eq_getElem?_getD, hx]; rfl
theorem decI_len20 (v : Int) : (decI v).length ≤ 20 := decD_len 20 _
theorem join_len : ∀ (l : List (List UInt8)) (sep : List UInt8) (b : Nat), (∀ x ∈ l, x.length ≤ b) → (Lib.join l sep).length ≤ (b + sep.length) * l.length
 | [], sep, b, _ => by simp [Lib.join, List.intercalate]
 | x :: r, sep, b, h => by
  rw [Lib.join_cons, List.length_append]
  have h1 := h x (List.mem_cons_self ..)
  have h2 : (Lib.joinTail sep r).length ≤ (b + sep.length) * r.length := by
   clear h1
   replace h := fun y hy => h y (List.mem_cons_of_mem _ hy)
   induction r with
   | nil => simp [Lib.joinTail]
   | cons y r ih =>
    have h3 := h y (List.mem_cons_self ..)
    have h4 := ih fun z hz => h z (List.mem_cons_of_mem _ hz)
    simp only [Lib.joinTail, List.map_cons, List.flatten_cons, List.length_append, List.length_cons] at h4 ⊢
    rw [Nat.mul_succ]; omega
  rw [List.length_cons, Nat.mul_succ]; omega
theorem fmtU_any (v : Int) (hv : (Lit.int .u32 v).wf = true) (w : World) (ht : Tab w) : Calls Tryz.prog 46 #[.int .u32 v] w fun e w' => e = .returned (.string (decS v)) ∧ Below w.heap.size w w' := by
 obtain ⟨n, rfl, hn⟩ := wf_u32 hv
 exact fmtUint32_any n hn w ht
theorem call_str (p : ProgD) {a : Nat} (ha : a < p.actions.l.length) (l : List Int) (nm : ByteArray) (hn : p.actions.l[a].name = nm) :
  (nm ++ (⟨#[40]⟩ : ByteArray) ++ (⟨(Lib.join ((l.map decS).map (·.data.toList)) [44, 32]).toArray⟩ : ByteArray) ++ (⟨#[41]⟩ : ByteArray)) = ⟨(callT p a l).toArray⟩ := by
 subst hn
 have e : nameA p (a : Int) = p.actions.l[a].name.data.toList := by rw [nameA, Int.toNat_natCast, List.getElem?_eq_getElem ha]; rfl
 apply ByteArray.ext
 rw [decS_list, callT, e, argsX]
 apply Array.ext'
 simp
theorem ocallT_any (p : ProgD) (a : Nat) (ha : a < p.actions.l.length) (y : L Int) (w : World) (o : ProgOk w p) (hy : LOk w 1 ucell y) (hu : ∀ v ∈ y.l, (Lit.int .u32 v).wf = true) (hl : y.l.length ≤ 100) (hnz : p.actions.l[a].name.size ≤ 1000) (ht : Tab w) :
  Calls Tryz.prog 47 #[.agg (progCells p), .agg #[.int .i64 a, .slice y.A y.l.length y.c]] w fun e w' => e = .returned (.string ⟨(callT p a y.l).toArray⟩) ∧ Below w.heap.size w w' := by
 obtain ⟨W, hW, hw, HB, hp⟩ := box2 w (progCells p) 31 #[.int .i64 a, .slice y.A y.l.length y.c] 35
 have HW := hi_ hw
 have HY := hi_ (hy.below hw (Nat.le_refl _))
 have HT := hi_ (ht.base hw)
 have HU := hi_ hu
 obtain ⟨g, of, hA, hq⟩ := ActD.atA (o.actions.below hw (Nat.le_refl _)) ha
 have hn1 : (a : Int) < (p.actions.l.length : Int) := by omega
 have HCS := hi_ (fun (nm : ByteArray) (hn : p.actions.l[a].name = nm) => call_str p ha y.l nm hn)
 have HQ := hi_ (fun w' (h : Below W.heap.size W w') => (hq w' h).1)
 clear o hw hy hu ht hq
 obtain ⟨yl, yA, yc⟩ := y
 simp only at HY HU HCS hl hp ⊢
 simp only [progCells, hA] at hp hW ⊢
 obtain ⟨nm, hnm⟩ : ∃ nm, nm = p.actions.l[a].name := ⟨_, rfl⟩
 rw [← hnm] at HQ hnz
 replace HCS := hi_ (HCS.out nm hnm.symm)
 generalize (⟨(callT p a yl).toArray⟩ : ByteArray) = R at *
 clear hA hnm
 obtain ⟨i0, hi, hz0, hz1, hz2⟩ := info_parts Tryz.infoString
 go_enter Tryz.func47, Tryz.ntmps47
 go_upto_region 1 with fail
 rw [← hW]
 clear hW
 have hp3 := (hp W HB).1
 have hp4 := (hp W HB).2
 go_wp2
 have HB0 := hi_ HB
 clear hp3 hp4 HB
 go_loopw [5, 7, 11] (fun lv _ iv wr => ∃ (k : Nat) (A : Option Addr) (c : Nat), k ≤ yl.length ∧ iv = .int .i64 k ∧ lv = .slice A k c ∧ Hid (wr.ownsRow W.heap.size 9 1 (.slice A k c) k (strs ((yl.take k).map decS))) ∧ Below W.heap.size W wr)
  (fun _ _ i _ => yl.length - (intOf i).toNat)
 case atStart => exact ⟨0, none, 0, Nat.zero_le _, rfl, rfl, hi_ (World.ownsRow_nil _ _ _ _), HB0.out⟩
 case round =>
  obtain ⟨k, A, c, hk, rfl, rfl, HO, HB⟩ := hrel
  by_cases hlt : k < yl.length
  ·
   obtain ⟨g2, of2, hA2, d0⟩ := ucell_at (HY.out.below HB (Nat.le_refl _)) hlt
   simp only at hA2 d0
   subst hA2
   have HF := hi_ (fun u (hb : Below W.heap.size W u) => fmtU_any yl[k] (HU.out _ (List.getElem_mem hlt)) u (HT.out.base hb))
   have HTk : Hid (strs ((yl.take (k + 1)).map decS) = strs ((yl.take k).map decS) ++ [.string (decS yl[k])]) := hi_ (by
    rw [take_snoc yl k hlt, List.map_append, strs, List.map_append]; rfl)
   generalize yl[k] = v at *
   have HBE := hi_ HB
   clear HB
   go_wp2_with fail
   refine (HF.out _ HBE.out).mono ?_
   rintro e w1 ⟨rfl, hb1⟩
   have hown1 := own_below HO.out hb1
   have hbel1 := below_step HBE.out hb1
   clear hb1 d0 HF HO
   go_wp2_with (first
    | (at_builtin; refine wpList_append_own _ rfl _ _ 86 rfl W.heap.size 9 i0 _ 1 16 Tryz.underlying86 hi hz0 hz1 hz2 rfl (by decide) _ _ _ rfl (hown1.alloc _) ⟨w1.heap.size, 0, none⟩ 1 1 [.string (decS v)] rfl rfl ?c1 ?c2 ?c3 ?c4 ?c5 ?_))
   case c1 => exact one_str _ _ _
   case c2 => intro u hu; simp at hu; subst hu; rfl
   case c3 => unfold maxLen; omega
   case c4 => omega
   case c5 => have := hbel1.size; simp; omega
   intro v' w2 hown2 hgrow _
   have hbel2 : Below W.heap.size W w2 := (hbel1.alloc hbel1.size _).grown hgrow (hbel1.alloc hbel1.size _).size fun j hj => (hown1.lt j hj).1
   obtain ⟨A', c', rfl⟩ := row_sliceO hown2
   have HO2 : Hid (w2.ownsRow W.heap.size 9 1 (.slice A' (k + 1) c') (k + 1) (strs ((yl.take (k + 1)).map decS))) := hi_ (by rw [HTk.out, List.map_take]; exact hown2)
   clear hown2 hgrow hown1 hbel1 HTk
   go_wp2
   go_roundw
   case rel => exact ⟨k + 1, A', c', by omega, by go_num, rfl, HO2, hbel2⟩
   case measure => simp [intOf]; omega
  ·
   have e : k = yl.length := by omega
   have HJ : Hid (∀ u, Below wr.heap.size wr u → Calls Tryz.prog 48 #[.slice A k c, .string ⟨#[44, 32]⟩] u fun e w' => e = .returned (.string ⟨(Lib.join ((yl.map decS).map (·.data.toList)) [44, 32]).toArray⟩) ∧ Below u.heap.size u w') := hi_ (fun u hb => by
    have h1 := own_below HO.out hb
    rw [e, List.take_length] at h1
    have h2 : yl.length = (yl.map decS).length := by simp
    have h3 := join_any (yl.map decS) ⟨#[44, 32]⟩ u (B := W.heap.size) (A := A) (c := c) (by rw [← h2]; exact h1) (by rw [← h2]; omega) (by
     refine Nat.le_trans (join_len _ _ 20 ?_) ?_
     ·
      intro x hx
      rw [decS_list] at hx
      obtain ⟨v, _, rfl⟩ := List.mem_map.1 hx
      exact decI_len20 v
     ·
      simp only [List.length_map]
      have : (20 + [(44 : UInt8), 32].length) * yl.length ≤ 22 * 100 := Nat.mul_le_mul (Nat.le_refl _) hl
      show (20 + [(44 : UInt8), 32].length) * yl.length ≤ _
      omega)
    rw [← h2, ← e] at h3
    exact h3)
   have HJl : Hid ((Lib.join ((yl.map decS).map (·.data.toList)) [44, 32]).length ≤ 2300) := hi_ (by
    refine Nat.le_trans (join_len _ _ 20 ?_) ?_
    ·
     intro x hx
     rw [decS_list] at hx
     obtain ⟨v, _, rfl⟩ := List.mem_map.1 hx
     exact decI_len20 v
    ·
     simp only [List.length_map]
     have : (20 + [(44 : UInt8), 32].length) * yl.length ≤ 22 * 100 := Nat.mul_le_mul (Nat.le_refl _) hl
     show (20 + [(44 : UInt8), 32].length) * yl.length ≤ _
     omega)
   obtain ⟨JS, hJS⟩ : ∃ JS : ByteArray, JS = ⟨(Lib.join ((yl.map decS).map (·.data.toList)) [44, 32]).toArray⟩ := ⟨_, rfl⟩
   have hjz : JS.size ≤ 2300 := by rw [hJS]; exact HJl.out
   have hcs := HCS.out
   rw [← hJS] at HJ hcs
   clear hJS HJl
   have HCSx := hi_ hcs
   clear hcs
   have b1 : (⟨#[40]⟩ : ByteArray).size = 1 := rfl
   have b2 : (⟨#[41]⟩ : ByteArray).size = 1 := rfl
   have z1 : ¬ (nm.size + (⟨#[40]⟩ : ByteArray).size > 9223372036854775807) := by omega
   have z2 : ¬ (nm.size + 1 > 9223372036854775807) := by omega
   have z3 : ¬ (nm.size + 1 + JS.size > 9223372036854775807) := by omega
   have z4 : ¬ (nm.size + 1 + JS.size + 1 > 9223372036854775807) := by omega
   have z5 : ¬ ((nm ++ (⟨#[40]⟩ : ByteArray)).size + JS.size > 9223372036854775807) := by rw [ByteArray.size_append]; omega
   have z6 : ¬ ((nm ++ (⟨#[40]⟩ : ByteArray) ++ JS).size + (⟨#[41]⟩ : ByteArray).size > 9223372036854775807) := by rw [ByteArray.size_append, ByteArray.size_append]; omega
   clear b1 b2
   go_upto_region 7 with fail
   have H0 := hi_ (Below.refl wr.heap.size wr)
   have HBE := hi_ HB
   have hp3 := fun u (hb : Below wr.heap.size wr u) => (hp u (below_step HBE.out hb)).1
   have hp4 := fun u (hb : Below wr.heap.size wr u) => (hp u (below_step HBE.out hb)).2
   have hq3 := fun u (hb : Below wr.heap.size wr u) => HQ.out u (below_step HBE.out hb)
   clear HB e
   go_region_held3 (fun w' => Below wr.heap.size wr w') (first | exact H0.out | exact below_drew H0.out | (exact below_step (by assumption) (by assumption)) | assumption)
    (first | (go_at_call 48; refine (HJ.out _ (by assumption)).mono ?_; rintro e w1 ⟨rfl, hb1⟩))
   have HB5 : Hid (Below wr.heap.size wr _) := hi_ (by assumption)
   go_wp2
   go_ret
   exact ⟨by rw [← HCSx.out]; rfl, below_step HW.out (below_step HBE.out HB5.out)⟩
theorem call_name (r : OR) (gB : Nat) : NamesF 199 (r.p.actions.l.map ActD.name) r gB := by
 intro u e i hi hR hB hP
 have hi' : i < r.p.actions.l.length := by simpa using hi
 obtain ⟨g, of, hA, hall⟩ := ActD.atA hP.actions hi'
 obtain ⟨d0, d1, d2⟩ := hall u (Below.refl _ _)
 have c4 : u.cell? ⟨r.gR, 4, none⟩ = some (.slice r.p.actions.A r.p.actions.l.length r.p.actions.c) := hR.cell 4
 have cB : u.cell? ⟨gB, 0, none⟩ = some (.pointer (some ⟨r.gR, 0, none⟩)) := hB.cell 0
 have HN := hi_ (show (r.p.actions.l.map ActD.name)[i] = r.p.actions.l[i].name from List.getElem_map _)
 have hlt : (i : Int) < (r.p.actions.l.length : Int) := by omega
 rw [hA] at c4
 rw [HN.out]
 generalize r.p.actions.l[i] = y at *
 obtain ⟨nm, pl, bl⟩ := y
 simp only at d0 ⊢
 clear hall hR hB hP hA d1 d2 HN
 go_enter Tryz.func199, Tryz.ntmps199
 go_wp2
 go_ret
 exact ⟨rfl, rfl⟩
def ActSt (b0 : Nat) (r : OR) (u : World) : Prop := u.cell? ⟨b0, 0, none⟩ = some (pR r) ∧ u.cell? ⟨r.gR, 4, none⟩ = some (.slice r.p.actions.A r.p.actions.l.length r.p.actions.c)
theorem actSt_of {W w0 u : World} {r : OR} {s : PS} {b0 : Nat} (h : OSt W w0 u r s) (hb : Blk u b0 120 #[pR r]) : ActSt b0 r u := by
 obtain ⟨a, e, h1, _⟩ := h.ex
 exact ⟨hb.cell 0, h1.cell 4⟩
theorem one_u32 {w : World} {g : Nat} {v : Int} (h : Blk w g 66 #[.int .u32 v]) : LOk w 1 ucell ⟨[v], some ⟨g, 0, none⟩, 1⟩ := by
 refine ⟨by unfold maxLen; simp, .inr ⟨g, 0, rfl, h.lt, fun i hi j hj => ?_⟩⟩
 have hi' : i < 1 := hi
 rw [h.cell]
 match i, hi', j, hj with
 | 0, _, 0, _ => rfl
theorem one_uc : ∀ (v : Int), ∀ c ∈ ucell v, c.oneCell' = true := by
 intro v c hc
 simp only [ucell, List.mem_cons, List.not_mem_nil, or_false] at hc
 subst hc; rfl
theorem args_bad (ts : List Tk) (n : Nat) (f : Bool) (acc : List Int) (e : Nat) : argsA ts n f acc (.bad e) = (acc, .bad e) := by
 cases n <;> rfl
theorem args_ok (ts : List Tk) (n : Nat) (f : Bool) (acc : List Int) (i : Nat) : argsA ts (n + 1) f acc (.ok i) = if (nxt ts i).text = [41] then (acc, .ok i)
  else argsA ts n false (acc ++ [((numA ts (if f then .ok i else stepA ts 3 [44] (.ok i))).1 : Int)]) (numA ts (if f then .ok i else stepA ts 3 [44] (.ok i))).2 := rfl
def leftC : Option Value → Nat
 | some v => leftO v
 | none => 0
def CallEnd (W w : World) (r : OR) (R : (Int × List Int) × PS) (e : Ending) (w' : World) : Prop :=
 ∃ A c, e = .returned (.agg #[.int .i64 R.1.1, .slice A R.1.2.length c]) ∧ LOk w' 1 ucell ⟨R.1.2, A, c⟩ ∧ (∀ ad, A = some ad → w.heap.size ≤ ad.block) ∧ OSt W w w' r R.2
theorem opwp_append_O {P : Program} {w : World} {o : Oper} {a : Act} {K : Act → World → Prop} {Q : Exit → Act → World → Prop} (s x : Operand) (t : TypeId)
  (ho : o.op = .call { callee := .builtin .append, args := #[s, x], argTypes := #[t, t] })
  (base : Nat) (e : TypeId) (i : TypeInfo) (z : Value) (size bytes : Nat) (ht : P.underlying t = some (.slice e)) (hi : P.info? e = some i) (hz : i.zero = some z)
  (hsize : i.size = size) (hby : i.bytes = bytes) (hzs : z.cells.size = size) (hsz : 0 < size)
  (v : Value) (n : Nat) (xs : List Value) (hs : a.eval s = v) (hown : w.ownsRow base e size v n xs)
  {α : Type} {cells : α → List Value} (y : L α) (hx : a.eval x = y.v) (hy : LOk w size cells y) (hnil : y.A = none → y.c = 0) (hk : ∀ u, (cells u).length = size) (h1 : ∀ u, ∀ c ∈ cells u, c.oneCell' = true)
  (h63 : n + y.l.length ≤ maxLen) (hbytes : (n + y.l.length) * bytes ≤ 140737488355328) (hbase : base ≤ w.heap.size)
  (h : ∀ v' w', w'.ownsRow base e size v' (n + y.l.length) (xs ++ y.l.flatMap cells) → w.grownBy w' v.ownBlock → K (a.put o.dst v') w') : Oper.wp P o a w K Q := by
 obtain ⟨l, A, c⟩ := y
 cases A with
 | none =>
  have hl : l = [] := by
   rcases hy.2 with h0 | ⟨g, o, e, _⟩
   · exact h0
   · cases e
  subst hl
  obtain rfl : c = 0 := hnil rfl
  have hr := run_append_owned_none (P := P) (w := w) base t o.type e i size ht hi v n xs hown
  have hx' : a.eval x = .slice none 0 0 := hx
  unfold Oper.wp
  simp [execOp, ho, resolve, invoke, builtin, hs, hx', hr, Result.andThen]
  exact h v w (by simpa using hown) ⟨rfl, rfl, rfl, Nat.le_refl _, fun _ _ _ => rfl⟩
 | some ad =>
  obtain ⟨v', w', hr, h2, h3, _, _⟩ := run_append_own_at (P := P) w base t o.type e i z size bytes ht hi hz hsize hby hzs hsz v n xs hown ad l.length c (l.flatMap cells) (flat_len cells size hk l) (fun m u hu => by
   obtain ⟨i', hi', j, hj, rfl, hc⟩ := flat_of cells size hk l m u hu
   obtain ⟨g, o, e', _, hcc⟩ := hy.at (x := ⟨l, some ad, c⟩) hi'
   simp only [Option.some.injEq] at e'
   rw [e', Addr.add_lit, ← Nat.add_assoc, hcc j hj, hc]) (fun u hu => by
   obtain ⟨r, _, hr⟩ := List.mem_flatMap.1 hu
   exact h1 r u hr) h63 hbytes hbase
  have hx' : a.eval x = .slice (some ad) l.length c := hx
  unfold Oper.wp execOp
  simp only [ho, resolve, invoke, builtin, Sem.run_bind, Sem.run_pure, Result.andThen_ok, List.map_toArray, List.map_cons, List.map_nil, hs, hx', hr]
  exact h v' w' h2 h3
theorem put2O {w : World} {k : Nat} {ty : TypeId} {a b : Value} (h : Blk w k ty #[a, b]) (x y : Value) : Blk ((w.setCell ⟨k, 0, none⟩ x).setCell ⟨k, 1, none⟩ y) k ty #[x, y] := (h.set_ 0 x).set_ 1 y
theorem args_fuel {ts : List Tk} {m n i : Nat} {f : Bool} (h : FuelO m (n + 1) (.ok i)) (hm : m = ts.length + 1) (hi : i ≤ ts.length) : FuelO m n (numA ts (if f then .ok i else stepA ts 3 [44] (.ok i))).2 := by
 have h0 : m < i + (n + 1) := h
 have h1 : 1 ≤ n := by omega
 cases f with
 | true => exact fuel_take (by decide) h1 h
 | false => exact fuel_take (by decide) h1 (fuel_keep (by decide) (by omega) h)
theorem call_end {W w w9 : World} {r : OR} {R : (Int × List Int) × PS} {R1 : Int} {RL : List Int × PS} {acc : List Int} {s : PS} {A : Option Addr} {c B : Nat}
  (hR : R = ((R1, RL.1), stepA r.x.l 3 [41] RL.2)) (hL : RL = (acc, s)) (hS : OSt W w w9 r (takeA r.x.l 3 [41] s).2) (hO : w9.ownsRow B 66 1 (.slice A acc.length c) acc.length (acc.flatMap ucell))
  (hn : w.heap.size + 1 ≠ r.gR ∧ w.heap.size + 1 ≠ r.gA ∧ w.heap.size + 1 ≠ r.gL) (hB : w.heap.size + 1 < B) (hW : W.heap.size ≤ w.heap.size + 1) (hwB : w.heap.size ≤ B) (x y : Value) :
  CallEnd W w r R (.returned (.agg #[.int .i64 R1, .slice A acc.length c])) ((w9.setCell ⟨w.heap.size + 1, 0, none⟩ x).setCell ⟨w.heap.size + 1, 1, none⟩ y) := by
 subst hL
 subst hR
 have hl := own_ltO hO
 have h1 := own_setO (own_setO hO (p := ⟨w.heap.size + 1, 0, none⟩) (fun e => by have := (hl _ e).1; simp only at this; omega) x) (p := ⟨w.heap.size + 1, 1, none⟩) (fun e => by have := (hl _ e).1; simp only at this; omega) y
 obtain ⟨A', c', e3, _, h2, _, h4⟩ := own_list (cells := ucell) (fun _ => rfl) h1
 rw [Value.slice.injEq] at e3
 obtain ⟨rfl, _, rfl⟩ := e3
 refine ⟨A, c, rfl, h2, fun ad e => Nat.le_trans hwB (h4 ad e).1, ?_⟩
 exact (hS.set (Nat.le_succ _) hW hn.1 hn.2.1 hn.2.2 0 x).set (Nat.le_succ _) hW hn.1 hn.2.1 hn.2.2 1 y
theorem orcall {W w : World} {r : OR} {s : PS} (E : OEnv W r) (h : OSt W w w r s) (hna : r.p.actions.l.length ≤ 1000) :
  Calls Tryz.prog 135 #[.pointer (some ⟨r.gR, 0, none⟩)] w (CallEnd W w r (callA r.p r.x.l s)) := by
 have HE := hi_ E
 have HLT := hi_ h.lt
 have HFew := hi_ E.few
 have HBW := hi_ h.base.size
 obtain ⟨V, hV⟩ : ∃ V, V = (w.alloc (.cells #[pR r] 120)).alloc (.cells #[.int .i64 0, .slice none 0 0] 35) := ⟨_, rfl⟩
 have HwV : Hid (Below w.heap.size w V) := hi_ (by rw [hV]; exact below2 _ _ _)
 have HBV : Hid (Blk V w.heap.size 120 #[pR r]) := hi_ (by rw [hV]; exact (Blk.new _ _ _).alloc _)
 have HRV : Hid (Blk V (w.heap.size + 1) 35 #[.int .i64 0, .slice none 0 0]) := hi_ (by
  rw [hV]
  have := Blk.new (w.alloc (.cells #[pR r] 120)) 35 #[.int .i64 0, .slice none 0 0]
  simpa using this)
 have HSV := hi_ (h.below HwV.out)
 have HNB : Hid (w.heap.size ≠ r.gR ∧ w.heap.size ≠ r.gA ∧ w.heap.size + 1 ≠ r.gR ∧ w.heap.size + 1 ≠ r.gA) := hi_ (by have := HLT.out; omega)
 obtain ⟨R, hR⟩ : ∃ R, R = callA r.p r.x.l s := ⟨_, rfl⟩
 rw [← hR]
 have HR : Hid (R = (((resA r.x.l (r.p.actions.l.map ActD.name) (stepA r.x.l 3 wArrow s)).1, (argsA r.x.l (r.x.l.length + 2) true [] (stepA r.x.l 3 [40] (resA r.x.l (r.p.actions.l.map ActD.name) (stepA r.x.l 3 wArrow s)).2)).1),
   stepA r.x.l 3 [41] (argsA r.x.l (r.x.l.length + 2) true [] (stepA r.x.l 3 [40] (resA r.x.l (r.p.actions.l.map ActD.name) (stepA r.x.l 3 wArrow s)).2)).2)) := hi_ hR
 have HT1 := hi_ (otake E HSV.out.refl 3 (by decide) ⟨#[45, 62]⟩)
 rw [show (⟨#[45, 62]⟩ : ByteArray).data.toList = wArrow from rfl] at HT1
 have HSA : Hid ((takeA r.x.l 3 wArrow s).2 = stepA r.x.l 3 wArrow s) := hi_ rfl
 have HNM := hi_ hna
 clear E h hR hna
 go_enter Tryz.func135, Tryz.ntmps135
 go_upto_region 1 with fail
 rw [← hV]
 clear hV
 have cB : V.cell? ⟨w.heap.size, 0, none⟩ = some (pR r) := HBV.out.cell 0
 go_wp2_with fail
 refine HT1.out.mono ?_
 rintro e1 w1 ⟨rfl, h1⟩
 have HS1 := hi_ (HSV.out.then h1)
 have HBb1 := hi_ (h1.gr.blk HBV.out HNB.out.1 HNB.out.2.1)
 have HRb1 := hi_ (h1.gr.blk HRV.out HNB.out.2.2.1 HNB.out.2.2.2)
 clear h1 HSV HBV HRV HT1 cB HwV
 rw [HSA.out] at HS1
 generalize stepA r.x.l 3 wArrow s = s1 at *
 clear HSA
 go_upto_region 2 with fail
 have HSD := hi_ (HS1.out.below (below_drew (Below.refl _ _))).refl
 have HBD : Hid (Blk w1.drew w.heap.size 120 #[pR r]) := hi_ HBb1.out
 have HRD : Hid (Blk w1.drew (w.heap.size + 1) 35 #[.int .i64 0, .slice none 0 0]) := hi_ HRb1.out
 have HRS := hi_ (fun (u : World) (hu : OSt W u u r s1) (hb : Blk u w.heap.size 120 #[pR r]) => show Calls Tryz.prog 130 #[.pointer (some ⟨r.gR, 0, none⟩), .int .i64 r.p.actions.l.length, .func (.func 199) #[] #[.pointer (some ⟨w.heap.size, 0, none⟩)]] u fun e w' => e = .returned (.int .i64 (resA r.x.l (r.p.actions.l.map ActD.name) s1).1) ∧ OSt W u w' r (resA r.x.l (r.p.actions.l.map ActD.name) s1).2 from by
  have h := oresolveA HE.out hu (r.p.actions.l.map ActD.name) (by rw [List.length_map]; exact HNM.out) w.heap.size (call_name r _) hb HNB.out.1 HNB.out.2.1
  rw [List.length_map] at h
  exact h)
 have HRX : Hid (resA r.x.l (r.p.actions.l.map ActD.name) s1 = resA r.x.l (r.p.actions.l.map ActD.name) s1) := hi_ rfl
 generalize resA r.x.l (r.p.actions.l.map ActD.name) s1 = q2 at *
 obtain ⟨R1, s2⟩ := q2
 simp only at HR HRS
 clear HRX
 go_cut [3] from 7 to 17 (fun v3 wr => ∃ g : Nat, v3 = .pointer (some ⟨g, 0, none⟩) ∧ w.heap.size + 1 < g ∧ Hid (Blk wr g 35 #[.int .i64 R1, .slice none 0 0]) ∧ Hid (Blk wr w.heap.size 120 #[pR r]) ∧ Hid (Blk wr (w.heap.size + 1) 35 #[.int .i64 0, .slice none 0 0]) ∧ Hid (OSt W w wr r s2) ∧ Hid (g ≠ r.gR ∧ g ≠ r.gA ∧ g ≠ r.gL ∧ w.heap.size + 1 < g))
 case first =>
  refine wp_region_held_drew (S := (fun u => u.cell? ⟨w.heap.size, 0, none⟩ = some (pR r) ∧ u.cell? ⟨r.gR, 4, none⟩ = some (.slice r.p.actions.A r.p.actions.l.length r.p.actions.c))) (by kernel_rfl) (actSt_of (HS1.out.below (below_drew (Below.refl _ _))) HBD.out) (fun hHeld => ?_)
  refine wpAnyH_take (i := 0) (oi := { dst := some 7, op := Op.load 120 (Operand.tmp 1), type := 120, pos := "optext.go:139", after := #[], guard := none }) (v := ?a1_v0) rfl (by kernel_rfl) (by kernel_rfl) (by kernel_rfl) (fun _ _ _ h => h) (Or.inl ⟨by rfl, ?a1_y0⟩) (by assumption) ?a1_r0
  case a1_y0 => (intro w hSw; (try dsimp only at hSw); go_simp; try (with_reducible rfl))
  try simp only [Act.put, sA, sZ, sS]
  refine wpAnyH_take (i := 1) (oi := { dst := some 8, op := Op.load 120 (Operand.tmp 1), type := 120, pos := "optext.go:139", after := #[], guard := none }) (v := ?a2_v1) rfl (by kernel_rfl) (by kernel_rfl) (by kernel_rfl) (fun _ _ _ h => h) (Or.inl ⟨by rfl, ?a2_y1⟩) (by assumption) ?a2_r1
  case a2_y1 => (intro w hSw; (try dsimp only at hSw); go_simp; try (with_reducible rfl))
  try simp only [Act.put, sA, sZ, sS]
  refine wpAnyH_take (i := 2) (oi := { dst := some 9, op := Op.nilCheck (Operand.tmp 8), type := 0, pos := "optext.go:139", after := #[{ on := 1, ground := Ground.data }], guard := none }) (v := ?a3_v2) rfl (by kernel_rfl) (by kernel_rfl) (by kernel_rfl) (fun _ _ _ h => h) (Or.inl ⟨by rfl, ?a3_y2⟩) (by assumption) ?a3_r2
  case a3_y2 => (intro w hSw; (try dsimp only at hSw); go_simp; try (with_reducible rfl))
  try simp only [Act.put, sA, sZ, sS]
  refine wpAnyH_take (i := 3) (oi := { dst := some 10, op := Op.fieldAddr 125 (Operand.tmp 9) 0, type := 0, pos := "optext.go:139", after := #[{ on := 2, ground := Ground.data }], guard := none }) (v := ?a4_v3) rfl (by kernel_rfl) (by kernel_rfl) (by kernel_rfl) (fun _ _ _ h => h) (Or.inl ⟨by rfl, ?a4_y3⟩) (by assumption) ?a4_r3
  case a4_y3 => (intro w hSw; (try dsimp only at hSw); go_simp; try (with_reducible rfl))
  try simp only [Act.put, sA, sZ, sS]
  refine wpAnyH_take (i := 4) (oi := { dst := some 11, op := Op.fieldAddr 31 (Operand.tmp 10) 4, type := 0, pos := "optext.go:139", after := #[{ on := 3, ground := Ground.data }], guard := none }) (v := ?a5_v4) rfl (by kernel_rfl) (by kernel_rfl) (by kernel_rfl) (fun _ _ _ h => h) (Or.inl ⟨by rfl, ?a5_y4⟩) (by assumption) ?a5_r4
  case a5_y4 => (intro w hSw; (try dsimp only at hSw); go_simp; try (with_reducible rfl))
  try simp only [Act.put, sA, sZ, sS]
  refine wpAnyH_take (i := 5) (oi := { dst := some 12, op := Op.load 25 (Operand.tmp 11), type := 25, pos := "optext.go:139", after := #[{ on := 4, ground := Ground.data }], guard := none }) (v := ?a6_v5) rfl (by kernel_rfl) (by kernel_rfl) (by kernel_rfl) (fun _ _ _ h => h) (Or.inl ⟨by rfl, ?a6_y5⟩) (by assumption) ?a6_r5
  case a6_y5 => (intro w hSw; (try dsimp only at hSw); go_simp; try (with_reducible rfl))
  try simp only [Act.put, sA, sZ, sS]
  refine wpAnyH_take (i := 6) (oi := { dst := some 13, op := Op.call { callee := Callee.builtin Builtin.len, args := #[Operand.tmp 12], argTypes := #[25] }, type := 3, pos := "optext.go:139", after := #[{ on := 5, ground := Ground.data }], guard := none }) (v := ?a7_v6) rfl (by kernel_rfl) (by kernel_rfl) (by kernel_rfl) (fun _ _ _ h => h) (Or.inl ⟨by rfl, ?a7_y6⟩) (by assumption) ?a7_r6
  case a7_y6 => (intro w hSw; (try dsimp only at hSw); go_simp; try (with_reducible rfl))
  try simp only [Act.put, sA, sZ, sS]
  refine wpAnyH_take (i := 7) (oi := { dst := some 14, op := Op.makeFunc (Fn.func 199) #[] #[Operand.tmp 1], type := 73, pos := "optext.go:139", after := #[], guard := none }) (v := ?a8_v7) rfl (by kernel_rfl) (by kernel_rfl) (by kernel_rfl) (fun _ _ _ h => h) (Or.inl ⟨by rfl, ?a8_y7⟩) (by assumption) ?a8_r7
  case a8_y7 => (intro w hSw; (try dsimp only at hSw); go_simp; try (with_reducible rfl))
  try simp only [Act.put, sA, sZ, sS]
  refine wpAnyH_ready (rs := [8, 10]) (by kernel_rfl) (by simp) ?_
  refine AllReadyH.cons (o := { dst := some 15, op := Op.call { callee := Callee.value (Operand.func 130), args := #[Operand.tmp 7, Operand.tmp 13, Operand.tmp 14], argTypes := #[120, 3, 73] }, type := 3, pos := "optext.go:139", after := #[{ on := 0, ground := Ground.data }, { on := 6, ground := Ground.data }, { on := 7, ground := Ground.data }], guard := none }) rfl (fun K hK => ?_) (AllReadyH.cons (o := { dst := some 3, op := Op.alloc 35, type := 0, pos := "optext.go:139", after := #[], guard := none }) rfl (fun K hK => ?_) (AllReadyH.nil))
  ·
   skip
   go_simp
   go_at_call 130
   refine (HRS.out _ HSD.out HBD.out).mono ?_
   rintro e u2 ⟨rfl, h2⟩
   have HS2 := hi_ ((HS1.out.below (below_drew (Below.refl _ _))).then h2)
   have HB2 := hi_ (h2.gr.blk HBD.out HNB.out.1 HNB.out.2.1)
   have HR2 := hi_ (h2.gr.blk HRD.out HNB.out.2.2.1 HNB.out.2.2.2)
   clear h2
   have hNEW : ActSt w.heap.size r u2 := actSt_of HS2.out HB2.out
   refine hK.out _ _ hNEW (fun hHeld5 => ?_)
   clear hK K hNEW
   refine wpAnyH_take (i := 9) (oi := { dst := some 16, op := Op.build 35 #[(0, Operand.tmp 15)], type := 35, pos := "optext.go:139", after := #[{ on := 8, ground := Ground.data }], guard := none }) (v := ?a9_v9) rfl (by kernel_rfl) (by kernel_rfl) (by kernel_rfl) (fun _ _ _ h => h) (Or.inl ⟨by rfl, ?a9_y9⟩) (by assumption) ?a9_r9
   case a9_y9 => (intro w hSw; (try dsimp only at hSw); go_simp; try (with_reducible rfl))
   try simp only [Act.put, sA, sZ, sS]
   refine wpAnyH_ready (rs := [10]) (by kernel_rfl) (by simp) ?_
   refine AllReadyH.cons (o := { dst := some 3, op := Op.alloc 35, type := 0, pos := "optext.go:139", after := #[], guard := none }) rfl (fun K hK => ?_) (AllReadyH.nil)
   go_simp
   obtain ⟨U1, hU1⟩ : ∃ U1, U1 = (u2.alloc (.cells #[.int .i64 0, .slice none 0 0] 35)) := ⟨_, rfl⟩
   have HBL : Hid (Below u2.heap.size u2 U1) := hi_ (by rw [hU1]; exact below1 _ _)
   have HSU := hi_ (HS2.out.below HBL.out)
   have HBU := hi_ (HB2.out.below HBL.out HB2.out.lt)
   have HRU := hi_ (HR2.out.below HBL.out HR2.out.lt)
   have HCU : Hid (Blk U1 u2.heap.size 35 #[.int .i64 0, .slice none 0 0]) := hi_ (by rw [hU1]; exact show Blk (u2.alloc _) _ _ _ from Blk.new u2 _ _)
   have HNG : Hid (u2.heap.size ≠ r.gR ∧ u2.heap.size ≠ r.gA ∧ u2.heap.size ≠ r.gL ∧ w.heap.size + 1 < u2.heap.size) := hi_ (by have h1 := HS2.out.lt; have h2 := HR2.out.lt; omega)
   have hNEW : ActSt w.heap.size r (u2.alloc (.cells #[.int .i64 0, .slice none 0 0] 35)) := by rw [← hU1]; exact actSt_of HSU.out HBU.out
   refine hK.out _ _ hNEW (fun hHeld6 => ?_)
   clear hK K hNEW
   rw [← hU1]
   clear hU1
   refine wpAnyH_ready (rs := [11]) (by kernel_rfl) (by simp) ?_
   refine AllReadyH.cons (o := { dst := none, op := Op.store 35 (Operand.tmp 3) (Operand.tmp 16), type := 0, pos := "optext.go:139", after := #[{ on := 10, ground := Ground.data }, { on := 9, ground := Ground.data }, { on := 8, ground := Ground.chain }, { on := 0, ground := Ground.phase }, { on := 1, ground := Ground.phase }, { on := 2, ground := Ground.phase }, { on := 3, ground := Ground.phase }, { on := 4, ground := Ground.phase }, { on := 5, ground := Ground.phase }, { on := 6, ground := Ground.phase }, { on := 7, ground := Ground.phase }, { on := 8, ground := Ground.phase }, { on := 9, ground := Ground.phase }, { on := 10, ground := Ground.phase }], guard := none }) rfl (fun K hK => ?_) (AllReadyH.nil)
   have r0 : U1.cell? ⟨u2.heap.size, 0, none⟩ = some (.int .i64 0) := HCU.out.cell 0
   have r1 : U1.cell? ⟨u2.heap.size, 1, none⟩ = some (.slice none 0 0) := HCU.out.cell 1
   have f0 : U1.frozen? ⟨u2.heap.size, 0, none⟩ = false := HCU.out.frozen 0
   have f1 : U1.frozen? ⟨u2.heap.size, 1, none⟩ = false := HCU.out.frozen 1
   go_simp
   obtain ⟨U3, hU3⟩ : ∃ U3, U3 = ((U1.setCell ⟨u2.heap.size, 0, none⟩ (.int .i64 R1)).setCell ⟨u2.heap.size, 1, none⟩ (.slice none 0 0)) := ⟨_, rfl⟩
   have HC3 : Hid (Blk U3 (u2.heap.size) 35 #[.int .i64 R1, .slice none 0 0]) := hi_ (by rw [hU3]; exact (HCU.out.set_ 0 _).set_ 1 _)
   have HB3 : Hid (Blk U3 w.heap.size 120 #[pR r]) := hi_ (by rw [hU3]; exact (HBU.out.far (by have := HNG.out; simp; omega) _).far (by have := HNG.out; simp; omega) _)
   have HR3 : Hid (Blk U3 (w.heap.size + 1) 35 #[.int .i64 0, .slice none 0 0]) := hi_ (by rw [hU3]; exact (HRU.out.far (by have := HNG.out; simp; omega) _).far (by have := HNG.out; simp; omega) _)
   have HS3 : Hid (OSt W w U3 r s2) := hi_ (by rw [hU3]; have h := HNG.out; have h2 := HBW.out; exact (HSU.out.set (by omega) (by omega) h.1 h.2.1 h.2.2.1 0 _).set (by omega) (by omega) h.1 h.2.1 h.2.2.1 1 _)
   have hNEW : ActSt w.heap.size r ((U1.setCell ⟨u2.heap.size, 0, none⟩ (.int .i64 R1)).setCell ⟨u2.heap.size, 1, none⟩ (.slice none 0 0)) := by rw [← hU3]; exact actSt_of HS3.out HB3.out
   refine hK.out _ _ hNEW (fun hHeld7 => ?_)
   clear hK K hNEW
   rw [← hU3]
   clear hU3 r0 r1 f0 f1
   refine wpAnyH_done (by kernel_rfl) ?_ _
   go_wp2
   go_meet
   case rel => exact ⟨_, rfl, HNG.out.2.2.2, HC3, HB3, HR3, HS3, HNG⟩
  ·
   skip
   go_simp
   obtain ⟨U1, hU1⟩ : ∃ U1, U1 = ((w1.alloc (.cells #[.int .i64 0, .slice none 0 0] 35)).drew) := ⟨_, rfl⟩
   have HBL : Hid (Below w1.heap.size w1 U1) := hi_ (by rw [hU1]; exact below_drew (below1 _ _))
   have HSU := hi_ (HS1.out.below HBL.out)
   have HBU := hi_ (HBb1.out.below HBL.out HBb1.out.lt)
   have HRU := hi_ (HRb1.out.below HBL.out HRb1.out.lt)
   have HCU : Hid (Blk U1 w1.heap.size 35 #[.int .i64 0, .slice none 0 0]) := hi_ (by rw [hU1]; exact show Blk (w1.alloc _) _ _ _ from Blk.new w1 _ _)
   have HNG : Hid (w1.heap.size ≠ r.gR ∧ w1.heap.size ≠ r.gA ∧ w1.heap.size ≠ r.gL ∧ w.heap.size + 1 < w1.heap.size) := hi_ (by have h1 := HS1.out.lt; have h2 := HRb1.out.lt; omega)
   have hNEW : ActSt w.heap.size r ((w1.alloc (.cells #[.int .i64 0, .slice none 0 0] 35)).drew) := by rw [← hU1]; exact actSt_of HSU.out HBU.out
   refine hK.out _ _ hNEW (fun hHeld6 => ?_)
   clear hK K hNEW
   rw [← hU1]
   clear hU1
   refine wpAnyH_ready (rs := [8]) (by kernel_rfl) (by simp) ?_
   refine AllReadyH.cons (o := { dst := some 15, op := Op.call { callee := Callee.value (Operand.func 130), args := #[Operand.tmp 7, Operand.tmp 13, Operand.tmp 14], argTypes := #[120, 3, 73] }, type := 3, pos := "optext.go:139", after := #[{ on := 0, ground := Ground.data }, { on := 6, ground := Ground.data }, { on := 7, ground := Ground.data }], guard := none }) rfl (fun K hK => ?_) (AllReadyH.nil)
   go_simp
   go_at_call 130
   refine (HRS.out _ HSU.out.refl HBU.out).mono ?_
   rintro e u2 ⟨rfl, h2⟩
   have HS2 := hi_ (HSU.out.then h2)
   have HB2 := hi_ (h2.gr.blk HBU.out HNB.out.1 HNB.out.2.1)
   have HR2 := hi_ (h2.gr.blk HRU.out HNB.out.2.2.1 HNB.out.2.2.2)
   have HC2 := hi_ (h2.gr.blk HCU.out HNG.out.1 HNG.out.2.1)
   clear h2
   have hNEW : ActSt w.heap.size r u2 := actSt_of HS2.out HB2.out
   refine hK.out _ _ hNEW (fun hHeld5 => ?_)
   clear hK K hNEW
   refine wpAnyH_take (i := 9) (oi := { dst := some 16, op := Op.build 35 #[(0, Operand.tmp 15)], type := 35, pos := "optext.go:139", after := #[{ on := 8, ground := Ground.data }], guard := none }) (v := ?a10_v9) rfl (by kernel_rfl) (by kernel_rfl) (by kernel_rfl) (fun _ _ _ h => h) (Or.inl ⟨by rfl, ?a10_y9⟩) (by assumption) ?a10_r9
   case a10_y9 => (intro w hSw; (try dsimp only at hSw); go_simp; try (with_reducible rfl))
   try simp only [Act.put, sA, sZ, sS]
   refine wpAnyH_ready (rs := [11]) (by kernel_rfl) (by simp) ?_
   refine AllReadyH.cons (o := { dst := none, op := Op.store 35 (Operand.tmp 3) (Operand.tmp 16), type := 0, pos := "optext.go:139", after := #[{ on := 10, ground := Ground.data }, { on := 9, ground := Ground.data }, { on := 8, ground := Ground.chain }, { on := 0, ground := Ground.phase }, { on := 1, ground := Ground.phase }, { on := 2, ground := Ground.phase }, { on := 3, ground := Ground.phase }, { on := 4, ground := Ground.phase }, { on := 5, ground := Ground.phase }, { on := 6, ground := Ground.phase }, { on := 7, ground := Ground.phase }, { on := 8, ground := Ground.phase }, { on := 9, ground := Ground.phase }, { on := 10, ground := Ground.phase }], guard := none }) rfl (fun K hK => ?_) (AllReadyH.nil)
   have r0 : u2.cell? ⟨w1.heap.size, 0, none⟩ = some (.int .i64 0) := HC2.out.cell 0
   have r1 : u2.cell? ⟨w1.heap.size, 1, none⟩ = some (.slice none 0 0) := HC2.out.cell 1
   have f0 : u2.frozen? ⟨w1.heap.size, 0, none⟩ = false := HC2.out.frozen 0
   have f1 : u2.frozen? ⟨w1.heap.size, 1, none⟩ = false := HC2.out.frozen 1
   go_simp
   obtain ⟨U3, hU3⟩ : ∃ U3, U3 = ((u2.setCell ⟨w1.heap.size, 0, none⟩ (.int .i64 R1)).setCell ⟨w1.heap.size, 1, none⟩ (.slice none 0 0)) := ⟨_, rfl⟩
   have HC3 : Hid (Blk U3 (w1.heap.size) 35 #[.int .i64 R1, .slice none 0 0]) := hi_ (by rw [hU3]; exact (HC2.out.set_ 0 _).set_ 1 _)
   have HB3 : Hid (Blk U3 w.heap.size 120 #[pR r]) := hi_ (by rw [hU3]; exact (HB2.out.far (by have := HNG.out; simp; omega) _).far (by have := HNG.out; simp; omega) _)
   have HR3 : Hid (Blk U3 (w.heap.size + 1) 35 #[.int .i64 0, .slice none 0 0]) := hi_ (by rw [hU3]; exact (HR2.out.far (by have := HNG.out; simp; omega) _).far (by have := HNG.out; simp; omega) _)
   have HS3 : Hid (OSt W w U3 r s2) := hi_ (by rw [hU3]; have h := HNG.out; have h2 := HBW.out; exact (HS2.out.set (by omega) (by omega) h.1 h.2.1 h.2.2.1 0 _).set (by omega) (by omega) h.1 h.2.1 h.2.2.1 1 _)
   have hNEW : ActSt w.heap.size r ((u2.setCell ⟨w1.heap.size, 0, none⟩ (.int .i64 R1)).setCell ⟨w1.heap.size, 1, none⟩ (.slice none 0 0)) := by rw [← hU3]; exact actSt_of HS3.out HB3.out
   refine hK.out _ _ hNEW (fun hHeld7 => ?_)
   clear hK K hNEW
   rw [← hU3]
   clear hU3 r0 r1 f0 f1
   refine wpAnyH_done (by kernel_rfl) ?_ _
   go_wp2
   go_meet
   case rel => exact ⟨_, rfl, HNG.out.2.2.2, HC3, HB3, HR3, HS3, HNG⟩
 case rest =>
 obtain ⟨g, rfl, hg, HCc, HBc, HRc, HSc, HNG⟩ := hcut
 have HT3 := hi_ (otake HE.out HSc.out.refl 3 (by decide) ⟨#[40]⟩)
 rw [show (⟨#[40]⟩ : ByteArray).data.toList = [40] from rfl] at HT3
 have HSA : Hid ((takeA r.x.l 3 [40] s2).2 = stepA r.x.l 3 [40] s2) := hi_ rfl
 have cB := HBc.out.cell 0
 go_wp2_with fail
 refine HT3.out.mono ?_
 rintro e1 Z ⟨rfl, h3⟩
 have HS3 := hi_ (HSc.out.then h3)
 have HC3 := hi_ (h3.gr.blk HCc.out HNG.out.1 HNG.out.2.1)
 have HB3 := hi_ (h3.gr.blk HBc.out HNB.out.1 HNB.out.2.1)
 have HR3 := hi_ (h3.gr.blk HRc.out HNB.out.2.2.1 HNB.out.2.2.2)
 clear h3 HCc HBc HRc HSc HT3 cB
 rw [HSA.out] at HS3
 generalize stepA r.x.l 3 [40] s2 = s3 at *
 clear HSA
 have HZW : Hid (w.heap.size ≤ Z.heap.size ∧ W.heap.size ≤ Z.heap.size) := hi_ (by have := HS3.out.gr.size; have := HBW.out; omega)
 have HZL : Hid (r.gR < Z.heap.size ∧ r.gA < Z.heap.size ∧ r.gL < Z.heap.size) := hi_ HS3.out.lt
 have HZB : Hid (w.heap.size < Z.heap.size ∧ w.heap.size + 1 < Z.heap.size) := hi_ ⟨HB3.out.lt, HR3.out.lt⟩
 have HZG : Hid (g < Z.heap.size) := hi_ HC3.out.lt
 obtain ⟨m, hm⟩ : ∃ m, m = r.x.l.length := ⟨_, rfl⟩
 have HM := hi_ hm
 obtain ⟨RL, hRL⟩ : ∃ RL, RL = argsA r.x.l (r.x.l.length + 2) true [] s3 := ⟨_, rfl⟩
 rw [← hRL] at HR
 have HA0 : Hid (argsA r.x.l (m + 2) true [] s3 = RL) := hi_ (by rw [hRL, hm])
 have HF0 : Hid (FuelO (m + 1) (m + 2) s3) := hi_ (by
  cases s3 with
  | ok i => show m + 1 < i + (m + 2); omega
  | bad e => show 1 ≤ m + 2; omega)
 clear hRL hm
 obtain ⟨i0, hi, hz0, hz1, hz2⟩ := info_parts (show (Tryz.prog.info? 66).map (fun i => (i.zero, i.size, i.bytes)) = some (some (.int .u32 0), 1, 4) by kernel_rfl)
 go_wp2
 go_loopw [4] (fun fv wr => ∃ (n : Nat) (acc : List Int) (A : Option Addr) (c : Nat) (s : PS) (f : Bool), fv = .bool f ∧ acc.length + n ≤ m + 2 ∧ Hid (FuelO (m + 1) n s) ∧ Hid (argsA r.x.l n f acc s = RL) ∧ Hid (wr.ownsRow Z.heap.size 66 1 (.slice A acc.length c) acc.length (acc.flatMap ucell)) ∧
   Hid (Blk wr g 35 #[.int .i64 R1, .slice A acc.length c]) ∧ Hid (Blk wr w.heap.size 120 #[pR r]) ∧ Hid (Blk wr (w.heap.size + 1) 35 #[.int .i64 0, .slice none 0 0]) ∧ Hid (OSt W w wr r s) ∧ Hid (Z.heap.size ≤ wr.heap.size))
  (fun _ wr => leftC (wr.cell? ⟨g, 1, none⟩))
 case atStart => exact ⟨m + 2, [], none, 0, s3, true, rfl, by simp, HF0, HA0, hi_ (World.ownsRow_nil _ _ _ _), HC3, HB3, HR3, HS3, hi_ (Nat.le_refl _)⟩
 case round =>
  obtain ⟨n, acc, A, c, s, f, rfl, hln, HF, HA, HO, HC, HB, HRr, HS, HZs⟩ := hrel
  have HCW : Hid (wr.cell? ⟨g, 1, none⟩ = some (.slice A acc.length c)) := hi_ (HC.out.cell 1)
  clear HC3 HB3 HR3 HS3 HA0 HF0
  have HNG2 : Hid (w.heap.size + 1 ≠ r.gR ∧ w.heap.size + 1 ≠ r.gA ∧ w.heap.size + 1 ≠ r.gL) := hi_ (by have := HLT.out; omega)
  have cB : wr.cell? ⟨w.heap.size, 0, none⟩ = some (pR r) := HB.out.cell 0
  cases s with
  | bad e =>
   obtain ⟨bR, he⟩ := HS.out.badc
   have c11 : wr.cell? ⟨r.gR, 11, none⟩ = some (.int .i64 e) := bR.cell 11
   have he' : ((e : Int) == 0) = false := bf_ (by omega)
   have HRL : Hid (RL = (acc, .bad e)) := hi_ (by rw [← HA.out, args_bad])
   clear bR he HA
   clear cB
   have cB := HB.out.cell 0
   have HT9 := hi_ (otake HE.out HS.out.refl 3 (by decide) ⟨#[41]⟩)
   rw [show (⟨#[41]⟩ : ByteArray).data.toList = [41] from rfl] at HT9
   go_wp2_with fail
   refine HT9.out.mono ?_
   rintro e9 w9 ⟨rfl, h9⟩
   have HS9 := hi_ (HS.out.then h9)
   have HC9 := hi_ (h9.gr.blk HC.out HNG.out.1 HNG.out.2.1)
   have HR9 := hi_ (h9.gr.blk HRr.out HNB.out.2.2.1 HNB.out.2.2.2)
   have HO9 := hi_ (ownsRow_gro HO.out h9.gr HZL.out.1 HZL.out.2.1)
   clear h9 HT9 cB HO HC HB HRr HS HF
   have r0 : w9.cell? ⟨g, 0, none⟩ = some (.int .i64 R1) := HC9.out.cell 0
   have r1 : w9.cell? ⟨g, 1, none⟩ = some (.slice A acc.length c) := HC9.out.cell 1
   have q0 : w9.cell? ⟨w.heap.size + 1, 0, none⟩ = some (.int .i64 0) := HR9.out.cell 0
   have q1 : w9.cell? ⟨w.heap.size + 1, 1, none⟩ = some (.slice none 0 0) := HR9.out.cell 1
   have f0 : w9.frozen? ⟨w.heap.size + 1, 0, none⟩ = false := HR9.out.frozen 0
   have f1 : w9.frozen? ⟨w.heap.size + 1, 1, none⟩ = false := HR9.out.frozen 1
   go_wp2
   refine bodyPost_ret (v := .agg #[.int .i64 R1, .slice A acc.length c]) ?_ rfl ?_
   · exact results_cell_row (fn := Tryz.f135) (p := 2) (ty := 35) rfl _ _ (w.heap.size + 1) 35 #[.int .i64 R1, .slice A acc.length c] (0, 0) _ rfl (put2O HR9.out _ _) Tryz.underlying35 rfl (by kernel_rfl)
   · exact call_end HR.out HRL.out HS9.out HO9.out HNG2.out HZB.out.2 (by have := HBW.out; have := HZW.out; omega) HZW.out.1 _ _
  | ok i =>
   obtain ⟨bR, bA, hi1⟩ := HS.out.okc
   have hn1 : 1 ≤ n := HF.out.pos (fun j hj => by injection hj with hj; have := HM.out; omega)
   obtain ⟨n, rfl⟩ : ∃ k, n = k + 1 := ⟨n - 1, by omega⟩
   have c11 : wr.cell? ⟨r.gR, 11, none⟩ = some (.int .i64 0) := bR.cell 11
   have c9 : wr.cell? ⟨r.gR, 9, none⟩ = some (nextF r) := bR.cell 9
   unfold nextF at c9
   have HN := hi_ (onext_any r.x i r.gA r.gL wr (HE.out.toks.below HS.out.base (Nat.le_refl _)) bA HS.out.lb)
   have HK := hi_ (args_ok r.x.l n f acc i)
   have HTX : Hid ((nxt r.x.l i).text ≠ [41] → FuelO (m + 1) n (numA r.x.l (if f then .ok i else stepA r.x.l 3 [44] (.ok i))).2) := hi_ (fun _ => args_fuel HF.out (by rw [HM.out]) hi1)
   clear bR bA hi1 hn1
   by_cases htx : (nxt r.x.l i).text = [41]
   ·
    have HRL : Hid (RL = (acc, .ok i)) := hi_ (HA.out.symm.trans (HK.out.trans (if_pos htx)))
    clear HK HA HTX
    generalize nxt r.x.l i = t at *
    obtain ⟨tk, tx, tv, tl⟩ := t
    simp only at htx HN
    subst htx
    have hft := tk_text (.int .i64 tk) (.string ⟨[(41 : UInt8)].toArray⟩) (.int .u32 tv) (.int .i64 tl)
    cases f with
    | true =>
     go_wp2_with fail
     refine HN.out.mono ?_
     rintro e1 w3 ⟨rfl, hb3⟩
     replace HS := hi_ (HS.out.below hb3)
     replace HZs := hi_ (Nat.le_trans HZs.out hb3.size)
     replace HO := hi_ (ownsRow_below HO.out hb3)
     replace HC := hi_ (HC.out.below hb3 HC.out.lt)
     replace HB := hi_ (HB.out.below hb3 HB.out.lt)
     replace HRr := hi_ (HRr.out.below hb3 HRr.out.lt)
     clear hb3 HN c11 c9 cB
     have cB := HB.out.cell 0
     have HT9 := hi_ (otake HE.out HS.out.refl 3 (by decide) ⟨#[41]⟩)
     rw [show (⟨#[41]⟩ : ByteArray).data.toList = [41] from rfl] at HT9
     go_wp2_with fail
     refine HT9.out.mono ?_
     rintro e9 w9 ⟨rfl, h9⟩
     have HS9 := hi_ (HS.out.then h9)
     have HC9 := hi_ (h9.gr.blk HC.out HNG.out.1 HNG.out.2.1)
     have HR9 := hi_ (h9.gr.blk HRr.out HNB.out.2.2.1 HNB.out.2.2.2)
     have HO9 := hi_ (ownsRow_gro HO.out h9.gr HZL.out.1 HZL.out.2.1)
     clear h9 HT9 cB HO HC HB HRr HS HF
     have r0 : w9.cell? ⟨g, 0, none⟩ = some (.int .i64 R1) := HC9.out.cell 0
     have r1 : w9.cell? ⟨g, 1, none⟩ = some (.slice A acc.length c) := HC9.out.cell 1
     have q0 : w9.cell? ⟨w.heap.size + 1, 0, none⟩ = some (.int .i64 0) := HR9.out.cell 0
     have q1 : w9.cell? ⟨w.heap.size + 1, 1, none⟩ = some (.slice none 0 0) := HR9.out.cell 1
     have f0 : w9.frozen? ⟨w.heap.size + 1, 0, none⟩ = false := HR9.out.frozen 0
     have f1 : w9.frozen? ⟨w.heap.size + 1, 1, none⟩ = false := HR9.out.frozen 1
     go_wp2
     refine bodyPost_ret (v := .agg #[.int .i64 R1, .slice A acc.length c]) ?_ rfl ?_
     · exact results_cell_row (fn := Tryz.f135) (p := 2) (ty := 35) rfl _ _ (w.heap.size + 1) 35 #[.int .i64 R1, .slice A acc.length c] (0, 0) _ rfl (put2O HR9.out _ _) Tryz.underlying35 rfl (by kernel_rfl)
     · exact call_end HR.out HRL.out HS9.out HO9.out HNG2.out HZB.out.2 (by have := HBW.out; have := HZW.out; omega) HZW.out.1 _ _
    | false =>
     go_wp2_with fail
     refine HN.out.mono ?_
     rintro e1 w3 ⟨rfl, hb3⟩
     replace HS := hi_ (HS.out.below hb3)
     replace HZs := hi_ (Nat.le_trans HZs.out hb3.size)
     replace HO := hi_ (ownsRow_below HO.out hb3)
     replace HC := hi_ (HC.out.below hb3 HC.out.lt)
     replace HB := hi_ (HB.out.below hb3 HB.out.lt)
     replace HRr := hi_ (HRr.out.below hb3 HRr.out.lt)
     clear hb3 HN c11 c9 cB
     have cB := HB.out.cell 0
     have HT9 := hi_ (otake HE.out HS.out.refl 3 (by decide) ⟨#[41]⟩)
     rw [show (⟨#[41]⟩ : ByteArray).data.toList = [41] from rfl] at HT9
     go_wp2_with fail
     refine HT9.out.mono ?_
     rintro e9 w9 ⟨rfl, h9⟩
     have HS9 := hi_ (HS.out.then h9)
     have HC9 := hi_ (h9.gr.blk HC.out HNG.out.1 HNG.out.2.1)
     have HR9 := hi_ (h9.gr.blk HRr.out HNB.out.2.2.1 HNB.out.2.2.2)
     have HO9 := hi_ (ownsRow_gro HO.out h9.gr HZL.out.1 HZL.out.2.1)
     clear h9 HT9 cB HO HC HB HRr HS HF
     have r0 : w9.cell? ⟨g, 0, none⟩ = some (.int .i64 R1) := HC9.out.cell 0
     have r1 : w9.cell? ⟨g, 1, none⟩ = some (.slice A acc.length c) := HC9.out.cell 1
     have q0 : w9.cell? ⟨w.heap.size + 1, 0, none⟩ = some (.int .i64 0) := HR9.out.cell 0
     have q1 : w9.cell? ⟨w.heap.size + 1, 1, none⟩ = some (.slice none 0 0) := HR9.out.cell 1
     have f0 : w9.frozen? ⟨w.heap.size + 1, 0, none⟩ = false := HR9.out.frozen 0
     have f1 : w9.frozen? ⟨w.heap.size + 1, 1, none⟩ = false := HR9.out.frozen 1
     go_wp2
     refine bodyPost_ret (v := .agg #[.int .i64 R1, .slice A acc.length c]) ?_ rfl ?_
     · exact results_cell_row (fn := Tryz.f135) (p := 2) (ty := 35) rfl _ _ (w.heap.size + 1) 35 #[.int .i64 R1, .slice A acc.length c] (0, 0) _ rfl (put2O HR9.out _ _) Tryz.underlying35 rfl (by kernel_rfl)
     · exact call_end HR.out HRL.out HS9.out HO9.out HNG2.out HZB.out.2 (by have := HBW.out; have := HZW.out; omega) HZW.out.1 _ _
   ·
    have HA5 := hi_ ((HK.out.symm.trans HA.out : _ = RL))
    rw [if_neg htx] at HA5
    have HF5 := hi_ (HTX.out htx)
    clear HK HA HTX
    generalize nxt r.x.l i = t at *
    obtain ⟨tk, tx, tv, tl⟩ := t
    simp only at htx HN
    have hft := tk_text (.int .i64 tk) (.string ⟨tx.toArray⟩) (.int .u32 tv) (.int .i64 tl)
    have hq1 : (tx == [41]) = false := bf_ htx
    have hq2 : (tx != [41]) = true := bne_iff_ne.2 htx
    clear htx
    cases f with
    | true =>
     go_wp2_with fail
     refine HN.out.mono ?_
     rintro e1 w3 ⟨rfl, hb3⟩
     replace HS := hi_ (HS.out.below hb3)
     replace HZs := hi_ (Nat.le_trans HZs.out hb3.size)
     replace HO := hi_ (ownsRow_below HO.out hb3)
     replace HC := hi_ (HC.out.below hb3 HC.out.lt)
     replace HB := hi_ (HB.out.below hb3 HB.out.lt)
     replace HRr := hi_ (HRr.out.below hb3 HRr.out.lt)
     clear hb3 HN c11 c9 cB
     have cB : w3.cell? ⟨w.heap.size, 0, none⟩ = some (pR r) := HB.out.cell 0
     simp only [if_true] at HA5 HF5
     obtain ⟨s4, hs4⟩ : ∃ s4, s4 = PS.ok i := ⟨_, rfl⟩
     rw [← hs4] at HA5 HF5 HS
     clear hs4
     go_upto_region 10 with fail
     have HSD := hi_ (HS.out.below (below_drew (Below.refl _ _)))
     have HOD := hi_ (ownsRow_below HO.out (below_drew (Below.refl _ _)))
     have HCD := hi_ (HC.out.below (below_drew (Below.refl _ _)) HC.out.lt)
     have HBD := hi_ (HB.out.below (below_drew (Below.refl _ _)) HB.out.lt)
     have HRD := hi_ (HRr.out.below (below_drew (Below.refl _ _)) HRr.out.lt)
     have HLn : Hid (acc.length ≤ 4098) := hi_ (by have := HM.out; have := HFew.out; omega)
     have HCg := hi_ (HC.out.cell 1)
     clear HS HO HC HB HRr cB
     refine wp_region_held_drew (S := (fun u => u.cell? ⟨w.heap.size, 0, none⟩ = some (pR r))) (by kernel_rfl) (HBD.out.cell 0) (fun hHeld => ?_)
     refine wpAnyH_take (i := 0) (oi := { dst := some 52, op := Op.fieldAddr 35 (Operand.tmp 3) 1, type := 0, pos := "optext.go:148", after := #[], guard := none }) (v := ?b1_v0) rfl (by kernel_rfl) (by kernel_rfl) (by kernel_rfl) (fun _ _ _ h => h) (Or.inl ⟨by rfl, ?b1_y0⟩) (by assumption) ?b1_r0
     case b1_y0 => (intro w hSw; (try dsimp only at hSw); go_simp; try (with_reducible rfl))
     try simp only [Act.put, sA, sZ, sS]
     refine wpAnyH_take (i := 2) (oi := { dst := some 54, op := Op.load 120 (Operand.tmp 1), type := 120, pos := "optext.go:148", after := #[], guard := none }) (v := ?b2_v2) rfl (by kernel_rfl) (by kernel_rfl) (by kernel_rfl) (fun _ _ _ h => h) (Or.inl ⟨by rfl, ?b2_y2⟩) (by assumption) ?b2_r2
     case b2_y2 => (intro w hSw; (try dsimp only at hSw); go_simp; try (with_reducible rfl))
     try simp only [Act.put, sA, sZ, sS]
     refine wpAnyH_ready (rs := [1, 3]) (by kernel_rfl) (by simp) ?_
     refine AllReadyH.cons (o := { dst := some 53, op := Op.load 33 (Operand.tmp 52), type := 33, pos := "optext.go:148", after := #[{ on := 0, ground := Ground.data }], guard := none }) rfl (fun K hK => ?_) (AllReadyH.cons (o := { dst := some 55, op := Op.call { callee := Callee.value (Operand.func 134), args := #[Operand.tmp 54], argTypes := #[120] }, type := 66, pos := "optext.go:148", after := #[{ on := 2, ground := Ground.data }], guard := none }) rfl (fun K hK => ?_) (AllReadyH.nil))
     ·
      skip
      have cg := HCg.out
      go_simp
      refine hK.out _ _ (HBD.out.cell 0) (fun hHeldL => ?_)
      clear hK K cg
      try simp only [Act.put, sA, sZ, sS]
      refine wpAnyH_ready (rs := [3]) (by kernel_rfl) (by simp) ?_
      refine AllReadyH.cons (o := { dst := some 55, op := Op.call { callee := Callee.value (Operand.func 134), args := #[Operand.tmp 54], argTypes := #[120] }, type := 66, pos := "optext.go:148", after := #[{ on := 2, ground := Ground.data }], guard := none }) rfl (fun K hK => ?_) (AllReadyH.nil)
      go_simp
      go_at_call 134
      refine (onumber HE.out HSD.out.refl).mono ?_
      rintro e w4 ⟨rfl, h4⟩
      have HS4 := hi_ (HSD.out.then h4)
      have HZ4 : Hid (Z.heap.size ≤ w4.heap.size) := hi_ (Nat.le_trans HZs.out h4.gr.size)
      have HO4 := hi_ (ownsRow_gro HOD.out h4.gr HZL.out.1 HZL.out.2.1)
      have HC4 := hi_ (h4.gr.blk HCD.out HNG.out.1 HNG.out.2.1)
      have HB4 := hi_ (h4.gr.blk HBD.out HNB.out.1 HNB.out.2.1)
      have HR4 := hi_ (h4.gr.blk HRD.out HNB.out.2.2.1 HNB.out.2.2.2)
      clear h4
      generalize numA r.x.l s4 = q at *
      obtain ⟨v, s5⟩ := q
      simp only at HS4 HA5 HF5 ⊢
      have hNEW : w4.cell? ⟨w.heap.size, 0, none⟩ = some (pR r) := HB4.out.cell 0
      refine hK.out _ _ hNEW (fun hHeld5 => ?_)
      clear hK K hNEW
      refine wpAnyH_ready (rs := [4]) (by kernel_rfl) (by simp) ?_
      refine AllReadyH.cons (o := { dst := some 56, op := Op.buildSlice 33 1 #[(0, Operand.tmp 55)], type := 33, pos := "optext.go:148", after := #[{ on := 3, ground := Ground.data }], guard := none }) rfl (fun K hK => ?_) (AllReadyH.nil)
      go_simp
      obtain ⟨U, hU⟩ : ∃ U, U = (w4.alloc (.cells #[.int .u32 v] 66)) := ⟨_, rfl⟩
      have HBU : Hid (Below w4.heap.size w4 U) := hi_ (by rw [hU]; exact below1 _ _)
      have HNW : Hid (Blk U w4.heap.size 66 #[.int .u32 v]) := hi_ (by rw [hU]; exact show Blk (w4.alloc _) _ _ _ from Blk.new w4 _ _)
      have HSU := hi_ (HS4.out.below HBU.out)
      have HZU : Hid (Z.heap.size ≤ U.heap.size) := hi_ (Nat.le_trans HZ4.out HBU.out.size)
      have HOU := hi_ (ownsRow_below HO4.out HBU.out)
      have HCU := hi_ (HC4.out.below HBU.out HC4.out.lt)
      have HB5 := hi_ (HB4.out.below HBU.out HB4.out.lt)
      have HR5 := hi_ (HR4.out.below HBU.out HR4.out.lt)
      have hNEW : (w4.alloc (.cells #[.int .u32 v] 66)).cell? ⟨w.heap.size, 0, none⟩ = some (pR r) := by rw [← hU]; exact HB5.out.cell 0
      refine hK.out _ _ hNEW (fun hHeld6 => ?_)
      clear hK K hNEW
      rw [← hU]
      clear hU
      refine wpAnyH_ready (rs := [5]) (by kernel_rfl) (by simp) ?_
      refine AllReadyH.cons (o := { dst := some 57, op := Op.call { callee := Callee.builtin Builtin.append, args := #[Operand.tmp 53, Operand.tmp 56], argTypes := #[33, 33] }, type := 33, pos := "optext.go:148", after := #[{ on := 1, ground := Ground.data }, { on := 4, ground := Ground.data }, { on := 3, ground := Ground.chain }], guard := none }) rfl (fun K hK => ?_) (AllReadyH.nil)
      rw [if_pos (by rfl)]
      refine opwp_append_O (.tmp 53) (.tmp 56) 33 rfl Z.heap.size 66 i0 _ 1 4 Tryz.underlying33 hi hz0 hz1 hz2 rfl (by decide) _ _ _ rfl HOU.out ⟨[(v : Int)], some ⟨w4.heap.size, 0, none⟩, 1⟩ rfl (one_u32 HNW.out) (fun h => by cases h) (fun _ => rfl) one_uc ?g1q1 ?g2q1 ?g3q1 ?_
      case g1q1 => have := HLn.out; unfold maxLen; simp only [List.length_cons, List.length_nil]; omega
      case g2q1 => have := HLn.out; simp only [List.length_cons, List.length_nil]; omega
      case g3q1 => exact HZU.out
      intro v6 w6 hown6 hgr6
      have hBW : Below Z.heap.size U w6 := grown_below HOU.out hgr6 HZU.out
      have HZ6 : Hid (Z.heap.size ≤ w6.heap.size) := hi_ (Nat.le_trans HZU.out hBW.size)
      have HS6 : Hid (OSt W w w6 r s5) := hi_ (HSU.out.above hBW HZW.out.1 HZW.out.2 ⟨HZL.out.1, HZL.out.2.1, HZL.out.2.2⟩)
      have HC6 : Hid (Blk w6 g 35 #[.int .i64 R1, .slice A acc.length c]) := hi_ (HCU.out.below hBW HZG.out)
      have HB6 : Hid (Blk w6 w.heap.size 120 #[pR r]) := hi_ (HB5.out.below hBW HZB.out.1)
      have HR6 : Hid (Blk w6 (w.heap.size + 1) 35 #[.int .i64 0, .slice none 0 0]) := hi_ (HR5.out.below hBW HZB.out.2)
      obtain ⟨A6, c6, rfl⟩ := row_sliceO hown6
      have HOl := hi_ (own_ltO hown6)
      have HO6 := hi_ hown6
      have hNEW : w6.cell? ⟨w.heap.size, 0, none⟩ = some (pR r) := HB6.out.cell 0
      refine hK.out _ _ hNEW (fun hHeld7 => ?_)
      clear hK K hNEW hown6 hgr6 hBW
      try simp only [Act.put, sA, sZ, sS]
      refine wpAnyH_take (i := 6) (oi := { dst := some 58, op := Op.fieldAddr 35 (Operand.tmp 3) 1, type := 0, pos := "optext.go:148", after := #[{ on := 0, ground := Ground.phase }, { on := 1, ground := Ground.phase }, { on := 2, ground := Ground.phase }, { on := 3, ground := Ground.phase }, { on := 4, ground := Ground.phase }, { on := 5, ground := Ground.phase }], guard := none }) (v := ?b3_v6) rfl (by kernel_rfl) (by kernel_rfl) (by kernel_rfl) (fun _ _ _ h => h) (Or.inl ⟨by rfl, ?b3_y6⟩) (by assumption) ?b3_r6
      case b3_y6 => (intro w hSw; (try dsimp only at hSw); go_simp; try (with_reducible rfl))
      try simp only [Act.put, sA, sZ, sS]
      refine wpAnyH_ready (rs := [7]) (by kernel_rfl) (by simp) ?_
      refine AllReadyH.cons (o := { dst := none, op := Op.store 33 (Operand.tmp 58) (Operand.tmp 57), type := 0, pos := "optext.go:148", after := #[{ on := 6, ground := Ground.data }, { on := 5, ground := Ground.data }, { on := 5, ground := Ground.chain }, { on := 0, ground := Ground.phase }, { on := 1, ground := Ground.phase }, { on := 2, ground := Ground.phase }, { on := 3, ground := Ground.phase }, { on := 4, ground := Ground.phase }, { on := 5, ground := Ground.phase }], guard := none }) rfl (fun K hK => ?_) (AllReadyH.nil)
      have r1 : w6.cell? ⟨g, 1, none⟩ = some (.slice A acc.length c) := HC6.out.cell 1
      have f1 : w6.frozen? ⟨g, 1, none⟩ = false := HC6.out.frozen 1
      go_simp
      obtain ⟨U7, hU7⟩ : ∃ U7, U7 = (w6.setCell ⟨g, 1, none⟩ (.slice A6 (acc.length + 1) c6)) := ⟨_, rfl⟩
      have HC7 : Hid (Blk U7 g 35 #[.int .i64 R1, .slice A6 (acc ++ [(v : Int)]).length c6]) := hi_ (by rw [hU7, List.length_append]; exact HC6.out.set_ 1 _)
      have HB7 : Hid (Blk U7 w.heap.size 120 #[pR r]) := hi_ (by rw [hU7]; exact HB6.out.far (by have := HNG.out; simp; omega) _)
      have HR7 : Hid (Blk U7 (w.heap.size + 1) 35 #[.int .i64 0, .slice none 0 0]) := hi_ (by rw [hU7]; exact HR6.out.far (by have := HNG.out; simp; omega) _)
      have HS7 : Hid (OSt W w U7 r s5) := hi_ (by rw [hU7]; have h := HNG.out; have h2 := HBW.out; exact HS6.out.set (by omega) (by omega) h.1 h.2.1 h.2.2.1 1 _)
      have HO7 : Hid (U7.ownsRow Z.heap.size 66 1 (.slice A6 (acc ++ [(v : Int)]).length c6) (acc ++ [(v : Int)]).length ((acc ++ [(v : Int)]).flatMap ucell)) := hi_ (by rw [hU7, List.length_append, List.flatMap_append]; exact own_setO HO6.out (p := ⟨g, 1, none⟩) (fun e => by have t1 : Z.heap.size ≤ g := (HOl.out _ e).1; have t2 := HZG.out; omega) _)
      have HZ7 : Hid (Z.heap.size ≤ U7.heap.size) := hi_ (by rw [hU7]; simpa [World.setCell] using HZ6.out)
      have hNEW : (w6.setCell ⟨g, 1, none⟩ (.slice A6 (acc.length + 1) c6)).cell? ⟨w.heap.size, 0, none⟩ = some (pR r) := by rw [← hU7]; exact HB7.out.cell 0
      refine hK.out _ _ hNEW (fun hHeld8 => ?_)
      clear hK K hNEW
      rw [← hU7]
      clear hU7 r1 f1
      refine wpAnyH_done (by kernel_rfl) ?_ _
      go_wp2
      go_roundw
      case rel => exact ⟨n, acc ++ [(v : Int)], A6, c6, s5, false, rfl, by rw [List.length_append]; simp; omega, HF5, HA5, HO7, HC7, HB7, HR7, HS7, HZ7⟩
      case measure => have hu := HC7.out.cell 1; have hv := HCW.out; have := HLn.out; rw [hu, hv]; show 5000 - (acc ++ [(v : Int)]).length < 5000 - acc.length; rw [List.length_append]; simp only [List.length_cons, List.length_nil]; omega
     ·
      skip
      go_simp
      go_at_call 134
      refine (onumber HE.out HSD.out.refl).mono ?_
      rintro e w4 ⟨rfl, h4⟩
      have HS4 := hi_ (HSD.out.then h4)
      have HZ4 : Hid (Z.heap.size ≤ w4.heap.size) := hi_ (Nat.le_trans HZs.out h4.gr.size)
      have HO4 := hi_ (ownsRow_gro HOD.out h4.gr HZL.out.1 HZL.out.2.1)
      have HC4 := hi_ (h4.gr.blk HCD.out HNG.out.1 HNG.out.2.1)
      have HB4 := hi_ (h4.gr.blk HBD.out HNB.out.1 HNB.out.2.1)
      have HR4 := hi_ (h4.gr.blk HRD.out HNB.out.2.2.1 HNB.out.2.2.2)
      clear h4
      generalize numA r.x.l s4 = q at *
      obtain ⟨v, s5⟩ := q
      simp only at HS4 HA5 HF5 ⊢
      have hNEW : w4.cell? ⟨w.heap.size, 0, none⟩ = some (pR r) := HB4.out.cell 0
      refine hK.out _ _ hNEW (fun hHeld5 => ?_)
      clear hK K hNEW
      refine wpAnyH_ready (rs := [1, 4]) (by kernel_rfl) (by simp) ?_
      refine AllReadyH.cons (o := { dst := some 53, op := Op.load 33 (Operand.tmp 52), type := 33, pos := "optext.go:148", after := #[{ on := 0, ground := Ground.data }], guard := none }) rfl (fun K hK => ?_) (AllReadyH.cons (o := { dst := some 56, op := Op.buildSlice 33 1 #[(0, Operand.tmp 55)], type := 33, pos := "optext.go:148", after := #[{ on := 3, ground := Ground.data }], guard := none }) rfl (fun K hK => ?_) (AllReadyH.nil))
      ·
       skip
       have cg := HC4.out.cell 1
       go_simp
       refine hK.out _ _ (HB4.out.cell 0) (fun hHeldL => ?_)
       clear hK K cg
       try simp only [Act.put, sA, sZ, sS]
       refine wpAnyH_ready (rs := [4]) (by kernel_rfl) (by simp) ?_
       refine AllReadyH.cons (o := { dst := some 56, op := Op.buildSlice 33 1 #[(0, Operand.tmp 55)], type := 33, pos := "optext.go:148", after := #[{ on := 3, ground := Ground.data }], guard := none }) rfl (fun K hK => ?_) (AllReadyH.nil)
       go_simp
       obtain ⟨U, hU⟩ : ∃ U, U = (w4.alloc (.cells #[.int .u32 v] 66)) := ⟨_, rfl⟩
       have HBU : Hid (Below w4.heap.size w4 U) := hi_ (by rw [hU]; exact below1 _ _)
       have HNW : Hid (Blk U w4.heap.size 66 #[.int .u32 v]) := hi_ (by rw [hU]; exact show Blk (w4.alloc _) _ _ _ from Blk.new w4 _ _)
       have HSU := hi_ (HS4.out.below HBU.out)
       have HZU : Hid (Z.heap.size ≤ U.heap.size) := hi_ (Nat.le_trans HZ4.out HBU.out.size)
       have HOU := hi_ (ownsRow_below HO4.out HBU.out)
       have HCU := hi_ (HC4.out.below HBU.out HC4.out.lt)
       have HB5 := hi_ (HB4.out.below HBU.out HB4.out.lt)
       have HR5 := hi_ (HR4.out.below HBU.out HR4.out.lt)
       have hNEW : (w4.alloc (.cells #[.int .u32 v] 66)).cell? ⟨w.heap.size, 0, none⟩ = some (pR r) := by rw [← hU]; exact HB5.out.cell 0
       refine hK.out _ _ hNEW (fun hHeld6 => ?_)
       clear hK K hNEW
       rw [← hU]
       clear hU
       refine wpAnyH_ready (rs := [5]) (by kernel_rfl) (by simp) ?_
       refine AllReadyH.cons (o := { dst := some 57, op := Op.call { callee := Callee.builtin Builtin.append, args := #[Operand.tmp 53, Operand.tmp 56], argTypes := #[33, 33] }, type := 33, pos := "optext.go:148", after := #[{ on := 1, ground := Ground.data }, { on := 4, ground := Ground.data }, { on := 3, ground := Ground.chain }], guard := none }) rfl (fun K hK => ?_) (AllReadyH.nil)
       rw [if_pos (by rfl)]
       refine opwp_append_O (.tmp 53) (.tmp 56) 33 rfl Z.heap.size 66 i0 _ 1 4 Tryz.underlying33 hi hz0 hz1 hz2 rfl (by decide) _ _ _ rfl HOU.out ⟨[(v : Int)], some ⟨w4.heap.size, 0, none⟩, 1⟩ rfl (one_u32 HNW.out) (fun h => by cases h) (fun _ => rfl) one_uc ?g1q2 ?g2q2 ?g3q2 ?_
       case g1q2 => have := HLn.out; unfold maxLen; simp only [List.length_cons, List.length_nil]; omega
       case g2q2 => have := HLn.out; simp only [List.length_cons, List.length_nil]; omega
       case g3q2 => exact HZU.out
       intro v6 w6 hown6 hgr6
       have hBW : Below Z.heap.size U w6 := grown_below HOU.out hgr6 HZU.out
       have HZ6 : Hid (Z.heap.size ≤ w6.heap.size) := hi_ (Nat.le_trans HZU.out hBW.size)
       have HS6 : Hid (OSt W w w6 r s5) := hi_ (HSU.out.above hBW HZW.out.1 HZW.out.2 ⟨HZL.out.1, HZL.out.2.1, HZL.out.2.2⟩)
       have HC6 : Hid (Blk w6 g 35 #[.int .i64 R1, .slice A acc.length c]) := hi_ (HCU.out.below hBW HZG.out)
       have HB6 : Hid (Blk w6 w.heap.size 120 #[pR r]) := hi_ (HB5.out.below hBW HZB.out.1)
       have HR6 : Hid (Blk w6 (w.heap.size + 1) 35 #[.int .i64 0, .slice none 0 0]) := hi_ (HR5.out.below hBW HZB.out.2)
       obtain ⟨A6, c6, rfl⟩ := row_sliceO hown6
       have HOl := hi_ (own_ltO hown6)
       have HO6 := hi_ hown6
       have hNEW : w6.cell? ⟨w.heap.size, 0, none⟩ = some (pR r) := HB6.out.cell 0
       refine hK.out _ _ hNEW (fun hHeld7 => ?_)
       clear hK K hNEW hown6 hgr6 hBW
       try simp only [Act.put, sA, sZ, sS]
       refine wpAnyH_take (i := 6) (oi := { dst := some 58, op := Op.fieldAddr 35 (Operand.tmp 3) 1, type := 0, pos := "optext.go:148", after := #[{ on := 0, ground := Ground.phase }, { on := 1, ground := Ground.phase }, { on := 2, ground := Ground.phase }, { on := 3, ground := Ground.phase }, { on := 4, ground := Ground.phase }, { on := 5, ground := Ground.phase }], guard := none }) (v := ?b4_v6) rfl (by kernel_rfl) (by kernel_rfl) (by kernel_rfl) (fun _ _ _ h => h) (Or.inl ⟨by rfl, ?b4_y6⟩) (by assumption) ?b4_r6
       case b4_y6 => (intro w hSw; (try dsimp only at hSw); go_simp; try (with_reducible rfl))
       try simp only [Act.put, sA, sZ, sS]
       refine wpAnyH_ready (rs := [7]) (by kernel_rfl) (by simp) ?_
       refine AllReadyH.cons (o := { dst := none, op := Op.store 33 (Operand.tmp 58) (Operand.tmp 57), type := 0, pos := "optext.go:148", after := #[{ on := 6, ground := Ground.data }, { on := 5, ground := Ground.data }, { on := 5, ground := Ground.chain }, { on := 0, ground := Ground.phase }, { on := 1, ground := Ground.phase }, { on := 2, ground := Ground.phase }, { on := 3, ground := Ground.phase }, { on := 4, ground := Ground.phase }, { on := 5, ground := Ground.phase }], guard := none }) rfl (fun K hK => ?_) (AllReadyH.nil)
       have r1 : w6.cell? ⟨g, 1, none⟩ = some (.slice A acc.length c) := HC6.out.cell 1
       have f1 : w6.frozen? ⟨g, 1, none⟩ = false := HC6.out.frozen 1
       go_simp
       obtain ⟨U7, hU7⟩ : ∃ U7, U7 = (w6.setCell ⟨g, 1, none⟩ (.slice A6 (acc.length + 1) c6)) := ⟨_, rfl⟩
       have HC7 : Hid (Blk U7 g 35 #[.int .i64 R1, .slice A6 (acc ++ [(v : Int)]).length c6]) := hi_ (by rw [hU7, List.length_append]; exact HC6.out.set_ 1 _)
       have HB7 : Hid (Blk U7 w.heap.size 120 #[pR r]) := hi_ (by rw [hU7]; exact HB6.out.far (by have := HNG.out; simp; omega) _)
       have HR7 : Hid (Blk U7 (w.heap.size + 1) 35 #[.int .i64 0, .slice none 0 0]) := hi_ (by rw [hU7]; exact HR6.out.far (by have := HNG.out; simp; omega) _)
       have HS7 : Hid (OSt W w U7 r s5) := hi_ (by rw [hU7]; have h := HNG.out; have h2 := HBW.out; exact HS6.out.set (by omega) (by omega) h.1 h.2.1 h.2.2.1 1 _)
       have HO7 : Hid (U7.ownsRow Z.heap.size 66 1 (.slice A6 (acc ++ [(v : Int)]).length c6) (acc ++ [(v : Int)]).length ((acc ++ [(v : Int)]).flatMap ucell)) := hi_ (by rw [hU7, List.length_append, List.flatMap_append]; exact own_setO HO6.out (p := ⟨g, 1, none⟩) (fun e => by have t1 : Z.heap.size ≤ g := (HOl.out _ e).1; have t2 := HZG.out; omega) _)
       have HZ7 : Hid (Z.heap.size ≤ U7.heap.size) := hi_ (by rw [hU7]; simpa [World.setCell] using HZ6.out)
       have hNEW : (w6.setCell ⟨g, 1, none⟩ (.slice A6 (acc.length + 1) c6)).cell? ⟨w.heap.size, 0, none⟩ = some (pR r) := by rw [← hU7]; exact HB7.out.cell 0
       refine hK.out _ _ hNEW (fun hHeld8 => ?_)
       clear hK K hNEW
       rw [← hU7]
       clear hU7 r1 f1
       refine wpAnyH_done (by kernel_rfl) ?_ _
       go_wp2
       go_roundw
       case rel => exact ⟨n, acc ++ [(v : Int)], A6, c6, s5, false, rfl, by rw [List.length_append]; simp; omega, HF5, HA5, HO7, HC7, HB7, HR7, HS7, HZ7⟩
       case measure => have hu := HC7.out.cell 1; have hv := HCW.out; have := HLn.out; rw [hu, hv]; show 5000 - (acc ++ [(v : Int)]).length < 5000 - acc.length; rw [List.length_append]; simp only [List.length_cons, List.length_nil]; omega
      ·
       skip
       go_simp
       obtain ⟨U, hU⟩ : ∃ U, U = (w4.alloc (.cells #[.int .u32 v] 66)) := ⟨_, rfl⟩
       have HBU : Hid (Below w4.heap.size w4 U) := hi_ (by rw [hU]; exact below1 _ _)
       have HNW : Hid (Blk U w4.heap.size 66 #[.int .u32 v]) := hi_ (by rw [hU]; exact show Blk (w4.alloc _) _ _ _ from Blk.new w4 _ _)
       have HSU := hi_ (HS4.out.below HBU.out)
       have HZU : Hid (Z.heap.size ≤ U.heap.size) := hi_ (Nat.le_trans HZ4.out HBU.out.size)
       have HOU := hi_ (ownsRow_below HO4.out HBU.out)
       have HCU := hi_ (HC4.out.below HBU.out HC4.out.lt)
       have HB5 := hi_ (HB4.out.below HBU.out HB4.out.lt)
       have HR5 := hi_ (HR4.out.below HBU.out HR4.out.lt)
       have hNEW : (w4.alloc (.cells #[.int .u32 v] 66)).cell? ⟨w.heap.size, 0, none⟩ = some (pR r) := by rw [← hU]; exact HB5.out.cell 0
       refine hK.out _ _ hNEW (fun hHeld6 => ?_)
       clear hK K hNEW
       rw [← hU]
       clear hU
       refine wpAnyH_ready (rs := [1]) (by kernel_rfl) (by simp) ?_
       refine AllReadyH.cons (o := { dst := some 53, op := Op.load 33 (Operand.tmp 52), type := 33, pos := "optext.go:148", after := #[{ on := 0, ground := Ground.data }], guard := none }) rfl (fun K hK => ?_) (AllReadyH.nil)
       have cg := HCU.out.cell 1
       go_simp
       refine hK.out _ _ (HB5.out.cell 0) (fun hHeldL => ?_)
       clear hK K cg
       try simp only [Act.put, sA, sZ, sS]
       refine wpAnyH_ready (rs := [5]) (by kernel_rfl) (by simp) ?_
       refine AllReadyH.cons (o := { dst := some 57, op := Op.call { callee := Callee.builtin Builtin.append, args := #[Operand.tmp 53, Operand.tmp 56], argTypes := #[33, 33] }, type := 33, pos := "optext.go:148", after := #[{ on := 1, ground := Ground.data }, { on := 4, ground := Ground.data }, { on := 3, ground := Ground.chain }], guard := none }) rfl (fun K hK => ?_) (AllReadyH.nil)
       rw [if_pos (by rfl)]
       refine opwp_append_O (.tmp 53) (.tmp 56) 33 rfl Z.heap.size 66 i0 _ 1 4 Tryz.underlying33 hi hz0 hz1 hz2 rfl (by decide) _ _ _ rfl HOU.out ⟨[(v : Int)], some ⟨w4.heap.size, 0, none⟩, 1⟩ rfl (one_u32 HNW.out) (fun h => by cases h) (fun _ => rfl) one_uc ?g1q3 ?g2q3 ?g3q3 ?_
       case g1q3 => have := HLn.out; unfold maxLen; simp only [List.length_cons, List.length_nil]; omega
       case g2q3 => have := HLn.out; simp only [List.length_cons, List.length_nil]; omega
       case g3q3 => exact HZU.out
       intro v6 w6 hown6 hgr6
       have hBW : Below Z.heap.size U w6 := grown_below HOU.out hgr6 HZU.out
       have HZ6 : Hid (Z.heap.size ≤ w6.heap.size) := hi_ (Nat.le_trans HZU.out hBW.size)
       have HS6 : Hid (OSt W w w6 r s5) := hi_ (HSU.out.above hBW HZW.out.1 HZW.out.2 ⟨HZL.out.1, HZL.out.2.1, HZL.out.2.2⟩)
       have HC6 : Hid (Blk w6 g 35 #[.int .i64 R1, .slice A acc.length c]) := hi_ (HCU.out.below hBW HZG.out)
       have HB6 : Hid (Blk w6 w.heap.size 120 #[pR r]) := hi_ (HB5.out.below hBW HZB.out.1)
       have HR6 : Hid (Blk w6 (w.heap.size + 1) 35 #[.int .i64 0, .slice none 0 0]) := hi_ (HR5.out.below hBW HZB.out.2)
       obtain ⟨A6, c6, rfl⟩ := row_sliceO hown6
       have HOl := hi_ (own_ltO hown6)
       have HO6 := hi_ hown6
       have hNEW : w6.cell? ⟨w.heap.size, 0, none⟩ = some (pR r) := HB6.out.cell 0
       refine hK.out _ _ hNEW (fun hHeld7 => ?_)
       clear hK K hNEW hown6 hgr6 hBW
       try simp only [Act.put, sA, sZ, sS]
       refine wpAnyH_take (i := 6) (oi := { dst := some 58, op := Op.fieldAddr 35 (Operand.tmp 3) 1, type := 0, pos := "optext.go:148", after := #[{ on := 0, ground := Ground.phase }, { on := 1, ground := Ground.phase }, { on := 2, ground := Ground.phase }, { on := 3, ground := Ground.phase }, { on := 4, ground := Ground.phase }, { on := 5, ground := Ground.phase }], guard := none }) (v := ?b5_v6) rfl (by kernel_rfl) (by kernel_rfl) (by kernel_rfl) (fun _ _ _ h => h) (Or.inl ⟨by rfl, ?b5_y6⟩) (by assumption) ?b5_r6
       case b5_y6 => (intro w hSw; (try dsimp only at hSw); go_simp; try (with_reducible rfl))
       try simp only [Act.put, sA, sZ, sS]
       refine wpAnyH_ready (rs := [7]) (by kernel_rfl) (by simp) ?_
       refine AllReadyH.cons (o := { dst := none, op := Op.store 33 (Operand.tmp 58) (Operand.tmp 57), type := 0, pos := "optext.go:148", after := #[{ on := 6, ground := Ground.data }, { on := 5, ground := Ground.data }, { on := 5, ground := Ground.chain }, { on := 0, ground := Ground.phase }, { on := 1, ground := Ground.phase }, { on := 2, ground := Ground.phase }, { on := 3, ground := Ground.phase }, { on := 4, ground := Ground.phase }, { on := 5, ground := Ground.phase }], guard := none }) rfl (fun K hK => ?_) (AllReadyH.nil)
       have r1 : w6.cell? ⟨g, 1, none⟩ = some (.slice A acc.length c) := HC6.out.cell 1
       have f1 : w6.frozen? ⟨g, 1, none⟩ = false := HC6.out.frozen 1
       go_simp
       obtain ⟨U7, hU7⟩ : ∃ U7, U7 = (w6.setCell ⟨g, 1, none⟩ (.slice A6 (acc.length + 1) c6)) := ⟨_, rfl⟩
       have HC7 : Hid (Blk U7 g 35 #[.int .i64 R1, .slice A6 (acc ++ [(v : Int)]).length c6]) := hi_ (by rw [hU7, List.length_append]; exact HC6.out.set_ 1 _)
       have HB7 : Hid (Blk U7 w.heap.size 120 #[pR r]) := hi_ (by rw [hU7]; exact HB6.out.far (by have := HNG.out; simp; omega) _)
       have HR7 : Hid (Blk U7 (w.heap.size + 1) 35 #[.int .i64 0, .slice none 0 0]) := hi_ (by rw [hU7]; exact HR6.out.far (by have := HNG.out; simp; omega) _)
       have HS7 : Hid (OSt W w U7 r s5) := hi_ (by rw [hU7]; have h := HNG.out; have h2 := HBW.out; exact HS6.out.set (by omega) (by omega) h.1 h.2.1 h.2.2.1 1 _)
       have HO7 : Hid (U7.ownsRow Z.heap.size 66 1 (.slice A6 (acc ++ [(v : Int)]).length c6) (acc ++ [(v : Int)]).length ((acc ++ [(v : Int)]).flatMap ucell)) := hi_ (by rw [hU7, List.length_append, List.flatMap_append]; exact own_setO HO6.out (p := ⟨g, 1, none⟩) (fun e => by have t1 : Z.heap.size ≤ g := (HOl.out _ e).1; have t2 := HZG.out; omega) _)
       have HZ7 : Hid (Z.heap.size ≤ U7.heap.size) := hi_ (by rw [hU7]; simpa [World.setCell] using HZ6.out)
       have hNEW : (w6.setCell ⟨g, 1, none⟩ (.slice A6 (acc.length + 1) c6)).cell? ⟨w.heap.size, 0, none⟩ = some (pR r) := by rw [← hU7]; exact HB7.out.cell 0
       refine hK.out _ _ hNEW (fun hHeld8 => ?_)
       clear hK K hNEW
       rw [← hU7]
       clear hU7 r1 f1
       refine wpAnyH_done (by kernel_rfl) ?_ _
       go_wp2
       go_roundw
       case rel => exact ⟨n, acc ++ [(v : Int)], A6, c6, s5, false, rfl, by rw [List.length_append]; simp; omega, HF5, HA5, HO7, HC7, HB7, HR7, HS7, HZ7⟩
       case measure => have hu := HC7.out.cell 1; have hv := HCW.out; have := HLn.out; rw [hu, hv]; show 5000 - (acc ++ [(v : Int)]).length < 5000 - acc.length; rw [List.length_append]; simp only [List.length_cons, List.length_nil]; omega
    | false =>
     go_wp2_with fail
     refine HN.out.mono ?_
     rintro e1 w3 ⟨rfl, hb3⟩
     replace HS := hi_ (HS.out.below hb3)
     replace HZs := hi_ (Nat.le_trans HZs.out hb3.size)
     replace HO := hi_ (ownsRow_below HO.out hb3)
     replace HC := hi_ (HC.out.below hb3 HC.out.lt)
     replace HB := hi_ (HB.out.below hb3 HB.out.lt)
     replace HRr := hi_ (HRr.out.below hb3 HRr.out.lt)
     clear hb3 HN c11 c9 cB
     have cB : w3.cell? ⟨w.heap.size, 0, none⟩ = some (pR r) := HB.out.cell 0
     simp only [Bool.false_eq_true, if_false] at HA5 HF5
     have HT4 := hi_ (otake HE.out HS.out.refl 3 (by decide) ⟨#[44]⟩)
     rw [show (⟨#[44]⟩ : ByteArray).data.toList = [44] from rfl] at HT4
     have HSA : Hid ((takeA r.x.l 3 [44] (.ok i)).2 = stepA r.x.l 3 [44] (.ok i)) := hi_ rfl
     go_wp2_with fail
     refine HT4.out.mono ?_
     rintro e4 w5 ⟨rfl, h4⟩
     replace HS := hi_ (HS.out.then h4)
     replace HZs := hi_ (Nat.le_trans HZs.out h4.gr.size)
     replace HO := hi_ (ownsRow_gro HO.out h4.gr HZL.out.1 HZL.out.2.1)
     replace HC := hi_ (h4.gr.blk HC.out HNG.out.1 HNG.out.2.1)
     replace HB := hi_ (h4.gr.blk HB.out HNB.out.1 HNB.out.2.1)
     replace HRr := hi_ (h4.gr.blk HRr.out HNB.out.2.2.1 HNB.out.2.2.2)
     clear h4 HT4 cB
     rw [HSA.out] at HS
     have cB : w5.cell? ⟨w.heap.size, 0, none⟩ = some (pR r) := HB.out.cell 0
     generalize stepA r.x.l 3 [44] (.ok i) = s4 at *
     clear HSA
     go_upto_region 10 with fail
     have HSD := hi_ (HS.out.below (below_drew (Below.refl _ _)))
     have HOD := hi_ (ownsRow_below HO.out (below_drew (Below.refl _ _)))
     have HCD := hi_ (HC.out.below (below_drew (Below.refl _ _)) HC.out.lt)
     have HBD := hi_ (HB.out.below (below_drew (Below.refl _ _)) HB.out.lt)
     have HRD := hi_ (HRr.out.below (below_drew (Below.refl _ _)) HRr.out.lt)
     have HLn : Hid (acc.length ≤ 4098) := hi_ (by have := HM.out; have := HFew.out; omega)
     have HCg := hi_ (HC.out.cell 1)
     clear HS HO HC HB HRr cB
     refine wp_region_held_drew (S := (fun u => u.cell? ⟨w.heap.size, 0, none⟩ = some (pR r))) (by kernel_rfl) (HBD.out.cell 0) (fun hHeld => ?_)
     refine wpAnyH_take (i := 0) (oi := { dst := some 52, op := Op.fieldAddr 35 (Operand.tmp 3) 1, type := 0, pos := "optext.go:148", after := #[], guard := none }) (v := ?d1_v0) rfl (by kernel_rfl) (by kernel_rfl) (by kernel_rfl) (fun _ _ _ h => h) (Or.inl ⟨by rfl, ?d1_y0⟩) (by assumption) ?d1_r0
     case d1_y0 => (intro w hSw; (try dsimp only at hSw); go_simp; try (with_reducible rfl))
     try simp only [Act.put, sA, sZ, sS]
     refine wpAnyH_take (i := 2) (oi := { dst := some 54, op := Op.load 120 (Operand.tmp 1), type := 120, pos := "optext.go:148", after := #[], guard := none }) (v := ?d2_v2) rfl (by kernel_rfl) (by kernel_rfl) (by kernel_rfl) (fun _ _ _ h => h) (Or.inl ⟨by rfl, ?d2_y2⟩) (by assumption) ?d2_r2
     case d2_y2 => (intro w hSw; (try dsimp only at hSw); go_simp; try (with_reducible rfl))
     try simp only [Act.put, sA, sZ, sS]
     refine wpAnyH_ready (rs := [1, 3]) (by kernel_rfl) (by simp) ?_
     refine AllReadyH.cons (o := { dst := some 53, op := Op.load 33 (Operand.tmp 52), type := 33, pos := "optext.go:148", after := #[{ on := 0, ground := Ground.data }], guard := none }) rfl (fun K hK => ?_) (AllReadyH.cons (o := { dst := some 55, op := Op.call { callee := Callee.value (Operand.func 134), args := #[Operand.tmp 54], argTypes := #[120] }, type := 66, pos := "optext.go:148", after := #[{ on := 2, ground := Ground.data }], guard := none }) rfl (fun K hK => ?_) (AllReadyH.nil))
     ·
      skip
      have cg := HCg.out
      go_simp
      refine hK.out _ _ (HBD.out.cell 0) (fun hHeldL => ?_)
      clear hK K cg
      try simp only [Act.put, sA, sZ, sS]
      refine wpAnyH_ready (rs := [3]) (by kernel_rfl) (by simp) ?_
      refine AllReadyH.cons (o := { dst := some 55, op := Op.call { callee := Callee.value (Operand.func 134), args := #[Operand.tmp 54], argTypes := #[120] }, type := 66, pos := "optext.go:148", after := #[{ on := 2, ground := Ground.data }], guard := none }) rfl (fun K hK => ?_) (AllReadyH.nil)
      go_simp
      go_at_call 134
      refine (onumber HE.out HSD.out.refl).mono ?_
      rintro e w4 ⟨rfl, h4⟩
      have HS4 := hi_ (HSD.out.then h4)
      have HZ4 : Hid (Z.heap.size ≤ w4.heap.size) := hi_ (Nat.le_trans HZs.out h4.gr.size)
      have HO4 := hi_ (ownsRow_gro HOD.out h4.gr HZL.out.1 HZL.out.2.1)
      have HC4 := hi_ (h4.gr.blk HCD.out HNG.out.1 HNG.out.2.1)
      have HB4 := hi_ (h4.gr.blk HBD.out HNB.out.1 HNB.out.2.1)
      have HR4 := hi_ (h4.gr.blk HRD.out HNB.out.2.2.1 HNB.out.2.2.2)
      clear h4
      generalize numA r.x.l s4 = q at *
      obtain ⟨v, s5⟩ := q
      simp only at HS4 HA5 HF5 ⊢
      have hNEW : w4.cell? ⟨w.heap.size, 0, none⟩ = some (pR r) := HB4.out.cell 0
      refine hK.out _ _ hNEW (fun hHeld5 => ?_)
      clear hK K hNEW
      refine wpAnyH_ready (rs := [4]) (by kernel_rfl) (by simp) ?_
      refine AllReadyH.cons (o := { dst := some 56, op := Op.buildSlice 33 1 #[(0, Operand.tmp 55)], type := 33, pos := "optext.go:148", after := #[{ on := 3, ground := Ground.data }], guard := none }) rfl (fun K hK => ?_) (AllReadyH.nil)
      go_simp
      obtain ⟨U, hU⟩ : ∃ U, U = (w4.alloc (.cells #[.int .u32 v] 66)) := ⟨_, rfl⟩
      have HBU : Hid (Below w4.heap.size w4 U) := hi_ (by rw [hU]; exact below1 _ _)
      have HNW : Hid (Blk U w4.heap.size 66 #[.int .u32 v]) := hi_ (by rw [hU]; exact show Blk (w4.alloc _) _ _ _ from Blk.new w4 _ _)
      have HSU := hi_ (HS4.out.below HBU.out)
      have HZU : Hid (Z.heap.size ≤ U.heap.size) := hi_ (Nat.le_trans HZ4.out HBU.out.size)
      have HOU := hi_ (ownsRow_below HO4.out HBU.out)
      have HCU := hi_ (HC4.out.below HBU.out HC4.out.lt)
      have HB5 := hi_ (HB4.out.below HBU.out HB4.out.lt)
      have HR5 := hi_ (HR4.out.below HBU.out HR4.out.lt)
      have hNEW : (w4.alloc (.cells #[.int .u32 v] 66)).cell? ⟨w.heap.size, 0, none⟩ = some (pR r) := by rw [← hU]; exact HB5.out.cell 0
      refine hK.out _ _ hNEW (fun hHeld6 => ?_)
      clear hK K hNEW
      rw [← hU]
      clear hU
      refine wpAnyH_ready (rs := [5]) (by kernel_rfl) (by simp) ?_
      refine AllReadyH.cons (o := { dst := some 57, op := Op.call { callee := Callee.builtin Builtin.append, args := #[Operand.tmp 53, Operand.tmp 56], argTypes := #[33, 33] }, type := 33, pos := "optext.go:148", after := #[{ on := 1, ground := Ground.data }, { on := 4, ground := Ground.data }, { on := 3, ground := Ground.chain }], guard := none }) rfl (fun K hK => ?_) (AllReadyH.nil)
      rw [if_pos (by rfl)]
      refine opwp_append_O (.tmp 53) (.tmp 56) 33 rfl Z.heap.size 66 i0 _ 1 4 Tryz.underlying33 hi hz0 hz1 hz2 rfl (by decide) _ _ _ rfl HOU.out ⟨[(v : Int)], some ⟨w4.heap.size, 0, none⟩, 1⟩ rfl (one_u32 HNW.out) (fun h => by cases h) (fun _ => rfl) one_uc ?g1q4 ?g2q4 ?g3q4 ?_
      case g1q4 => have := HLn.out; unfold maxLen; simp only [List.length_cons, List.length_nil]; omega
      case g2q4 => have := HLn.out; simp only [List.length_cons, List.length_nil]; omega
      case g3q4 => exact HZU.out
      intro v6 w6 hown6 hgr6
      have hBW : Below Z.heap.size U w6 := grown_below HOU.out hgr6 HZU.out
      have HZ6 : Hid (Z.heap.size ≤ w6.heap.size) := hi_ (Nat.le_trans HZU.out hBW.size)
      have HS6 : Hid (OSt W w w6 r s5) := hi_ (HSU.out.above hBW HZW.out.1 HZW.out.2 ⟨HZL.out.1, HZL.out.2.1, HZL.out.2.2⟩)
      have HC6 : Hid (Blk w6 g 35 #[.int .i64 R1, .slice A acc.length c]) := hi_ (HCU.out.below hBW HZG.out)
      have HB6 : Hid (Blk w6 w.heap.size 120 #[pR r]) := hi_ (HB5.out.below hBW HZB.out.1)
      have HR6 : Hid (Blk w6 (w.heap.size + 1) 35 #[.int .i64 0, .slice none 0 0]) := hi_ (HR5.out.below hBW HZB.out.2)
      obtain ⟨A6, c6, rfl⟩ := row_sliceO hown6
      have HOl := hi_ (own_ltO hown6)
      have HO6 := hi_ hown6
      have hNEW : w6.cell? ⟨w.heap.size, 0, none⟩ = some (pR r) := HB6.out.cell 0
      refine hK.out _ _ hNEW (fun hHeld7 => ?_)
      clear hK K hNEW hown6 hgr6 hBW
      try simp only [Act.put, sA, sZ, sS]
      refine wpAnyH_take (i := 6) (oi := { dst := some 58, op := Op.fieldAddr 35 (Operand.tmp 3) 1, type := 0, pos := "optext.go:148", after := #[{ on := 0, ground := Ground.phase }, { on := 1, ground := Ground.phase }, { on := 2, ground := Ground.phase }, { on := 3, ground := Ground.phase }, { on := 4, ground := Ground.phase }, { on := 5, ground := Ground.phase }], guard := none }) (v := ?d3_v6) rfl (by kernel_rfl) (by kernel_rfl) (by kernel_rfl) (fun _ _ _ h => h) (Or.inl ⟨by rfl, ?d3_y6⟩) (by assumption) ?d3_r6
      case d3_y6 => (intro w hSw; (try dsimp only at hSw); go_simp; try (with_reducible rfl))
      try simp only [Act.put, sA, sZ, sS]
      refine wpAnyH_ready (rs := [7]) (by kernel_rfl) (by simp) ?_
      refine AllReadyH.cons (o := { dst := none, op := Op.store 33 (Operand.tmp 58) (Operand.tmp 57), type := 0, pos := "optext.go:148", after := #[{ on := 6, ground := Ground.data }, { on := 5, ground := Ground.data }, { on := 5, ground := Ground.chain }, { on := 0, ground := Ground.phase }, { on := 1, ground := Ground.phase }, { on := 2, ground := Ground.phase }, { on := 3, ground := Ground.phase }, { on := 4, ground := Ground.phase }, { on := 5, ground := Ground.phase }], guard := none }) rfl (fun K hK => ?_) (AllReadyH.nil)
      have r1 : w6.cell? ⟨g, 1, none⟩ = some (.slice A acc.length c) := HC6.out.cell 1
      have f1 : w6.frozen? ⟨g, 1, none⟩ = false := HC6.out.frozen 1
      go_simp
      obtain ⟨U7, hU7⟩ : ∃ U7, U7 = (w6.setCell ⟨g, 1, none⟩ (.slice A6 (acc.length + 1) c6)) := ⟨_, rfl⟩
      have HC7 : Hid (Blk U7 g 35 #[.int .i64 R1, .slice A6 (acc ++ [(v : Int)]).length c6]) := hi_ (by rw [hU7, List.length_append]; exact HC6.out.set_ 1 _)
      have HB7 : Hid (Blk U7 w.heap.size 120 #[pR r]) := hi_ (by rw [hU7]; exact HB6.out.far (by have := HNG.out; simp; omega) _)
      have HR7 : Hid (Blk U7 (w.heap.size + 1) 35 #[.int .i64 0, .slice none 0 0]) := hi_ (by rw [hU7]; exact HR6.out.far (by have := HNG.out; simp; omega) _)
      have HS7 : Hid (OSt W w U7 r s5) := hi_ (by rw [hU7]; have h := HNG.out; have h2 := HBW.out; exact HS6.out.set (by omega) (by omega) h.1 h.2.1 h.2.2.1 1 _)
      have HO7 : Hid (U7.ownsRow Z.heap.size 66 1 (.slice A6 (acc ++ [(v : Int)]).length c6) (acc ++ [(v : Int)]).length ((acc ++ [(v : Int)]).flatMap ucell)) := hi_ (by rw [hU7, List.length_append, List.flatMap_append]; exact own_setO HO6.out (p := ⟨g, 1, none⟩) (fun e => by have t1 : Z.heap.size ≤ g := (HOl.out _ e).1; have t2 := HZG.out; omega) _)
      have HZ7 : Hid (Z.heap.size ≤ U7.heap.size) := hi_ (by rw [hU7]; simpa [World.setCell] using HZ6.out)
      have hNEW : (w6.setCell ⟨g, 1, none⟩ (.slice A6 (acc.length + 1) c6)).cell? ⟨w.heap.size, 0, none⟩ = some (pR r) := by rw [← hU7]; exact HB7.out.cell 0
      refine hK.out _ _ hNEW (fun hHeld8 => ?_)
      clear hK K hNEW
      rw [← hU7]
      clear hU7 r1 f1
      refine wpAnyH_done (by kernel_rfl) ?_ _
      go_wp2
      go_roundw
      case rel => exact ⟨n, acc ++ [(v : Int)], A6, c6, s5, false, rfl, by rw [List.length_append]; simp; omega, HF5, HA5, HO7, HC7, HB7, HR7, HS7, HZ7⟩
      case measure => have hu := HC7.out.cell 1; have hv := HCW.out; have := HLn.out; rw [hu, hv]; show 5000 - (acc ++ [(v : Int)]).length < 5000 - acc.length; rw [List.length_append]; simp only [List.length_cons, List.length_nil]; omega
     ·
      skip
      go_simp
      go_at_call 134
      refine (onumber HE.out HSD.out.refl).mono ?_
      rintro e w4 ⟨rfl, h4⟩
      have HS4 := hi_ (HSD.out.then h4)
      have HZ4 : Hid (Z.heap.size ≤ w4.heap.size) := hi_ (Nat.le_trans HZs.out h4.gr.size)
      have HO4 := hi_ (ownsRow_gro HOD.out h4.gr HZL.out.1 HZL.out.2.1)
      have HC4 := hi_ (h4.gr.blk HCD.out HNG.out.1 HNG.out.2.1)
      have HB4 := hi_ (h4.gr.blk HBD.out HNB.out.1 HNB.out.2.1)
      have HR4 := hi_ (h4.gr.blk HRD.out HNB.out.2.2.1 HNB.out.2.2.2)
      clear h4
      generalize numA r.x.l s4 = q at *
      obtain ⟨v, s5⟩ := q
      simp only at HS4 HA5 HF5 ⊢
      have hNEW : w4.cell? ⟨w.heap.size, 0, none⟩ = some (pR r) := HB4.out.cell 0
      refine hK.out _ _ hNEW (fun hHeld5 => ?_)
      clear hK K hNEW
      refine wpAnyH_ready (rs := [1, 4]) (by kernel_rfl) (by simp) ?_
      refine AllReadyH.cons (o := { dst := some 53, op := Op.load 33 (Operand.tmp 52), type := 33, pos := "optext.go:148", after := #[{ on := 0, ground := Ground.data }], guard := none }) rfl (fun K hK => ?_) (AllReadyH.cons (o := { dst := some 56, op := Op.buildSlice 33 1 #[(0, Operand.tmp 55)], type := 33, pos := "optext.go:148", after := #[{ on := 3, ground := Ground.data }], guard := none }) rfl (fun K hK => ?_) (AllReadyH.nil))
      ·
       skip
       have cg := HC4.out.cell 1
       go_simp
       refine hK.out _ _ (HB4.out.cell 0) (fun hHeldL => ?_)
       clear hK K cg
       try simp only [Act.put, sA, sZ, sS]
       refine wpAnyH_ready (rs := [4]) (by kernel_rfl) (by simp) ?_
       refine AllReadyH.cons (o := { dst := some 56, op := Op.buildSlice 33 1 #[(0, Operand.tmp 55)], type := 33, pos := "optext.go:148", after := #[{ on := 3, ground := Ground.data }], guard := none }) rfl (fun K hK => ?_) (AllReadyH.nil)
       go_simp
       obtain ⟨U, hU⟩ : ∃ U, U = (w4.alloc (.cells #[.int .u32 v] 66)) := ⟨_, rfl⟩
       have HBU : Hid (Below w4.heap.size w4 U) := hi_ (by rw [hU]; exact below1 _ _)
       have HNW : Hid (Blk U w4.heap.size 66 #[.int .u32 v]) := hi_ (by rw [hU]; exact show Blk (w4.alloc _) _ _ _ from Blk.new w4 _ _)
       have HSU := hi_ (HS4.out.below HBU.out)
       have HZU : Hid (Z.heap.size ≤ U.heap.size) := hi_ (Nat.le_trans HZ4.out HBU.out.size)
       have HOU := hi_ (ownsRow_below HO4.out HBU.out)
       have HCU := hi_ (HC4.out.below HBU.out HC4.out.lt)
       have HB5 := hi_ (HB4.out.below HBU.out HB4.out.lt)
       have HR5 := hi_ (HR4.out.below HBU.out HR4.out.lt)
       have hNEW : (w4.alloc (.cells #[.int .u32 v] 66)).cell? ⟨w.heap.size, 0, none⟩ = some (pR r) := by rw [← hU]; exact HB5.out.cell 0
       refine hK.out _ _ hNEW (fun hHeld6 => ?_)
       clear hK K hNEW
       rw [← hU]
       clear hU
       refine wpAnyH_ready (rs := [5]) (by kernel_rfl) (by simp) ?_
       refine AllReadyH.cons (o := { dst := some 57, op := Op.call { callee := Callee.builtin Builtin.append, args := #[Operand.tmp 53, Operand.tmp 56], argTypes := #[33, 33] }, type := 33, pos := "optext.go:148", after := #[{ on := 1, ground := Ground.data }, { on := 4, ground := Ground.data }, { on := 3, ground := Ground.chain }], guard := none }) rfl (fun K hK => ?_) (AllReadyH.nil)
       rw [if_pos (by rfl)]
       refine opwp_append_O (.tmp 53) (.tmp 56) 33 rfl Z.heap.size 66 i0 _ 1 4 Tryz.underlying33 hi hz0 hz1 hz2 rfl (by decide) _ _ _ rfl HOU.out ⟨[(v : Int)], some ⟨w4.heap.size, 0, none⟩, 1⟩ rfl (one_u32 HNW.out) (fun h => by cases h) (fun _ => rfl) one_uc ?g1q5 ?g2q5 ?g3q5 ?_
       case g1q5 => have := HLn.out; unfold maxLen; simp only [List.length_cons, List.length_nil]; omega
       case g2q5 => have := HLn.out; simp only [List.length_cons, List.length_nil]; omega
       case g3q5 => exact HZU.out
       intro v6 w6 hown6 hgr6
       have hBW : Below Z.heap.size U w6 := grown_below HOU.out hgr6 HZU.out
       have HZ6 : Hid (Z.heap.size ≤ w6.heap.size) := hi_ (Nat.le_trans HZU.out hBW.size)
       have HS6 : Hid (OSt W w w6 r s5) := hi_ (HSU.out.above hBW HZW.out.1 HZW.out.2 ⟨HZL.out.1, HZL.out.2.1, HZL.out.2.2⟩)
       have HC6 : Hid (Blk w6 g 35 #[.int .i64 R1, .slice A acc.length c]) := hi_ (HCU.out.below hBW HZG.out)
       have HB6 : Hid (Blk w6 w.heap.size 120 #[pR r]) := hi_ (HB5.out.below hBW HZB.out.1)
       have HR6 : Hid (Blk w6 (w.heap.size + 1) 35 #[.int .i64 0, .slice none 0 0]) := hi_ (HR5.out.below hBW HZB.out.2)
       obtain ⟨A6, c6, rfl⟩ := row_sliceO hown6
       have HOl := hi_ (own_ltO hown6)
       have HO6 := hi_ hown6
       have hNEW : w6.cell? ⟨w.heap.size, 0, none⟩ = some (pR r) := HB6.out.cell 0
       refine hK.out _ _ hNEW (fun hHeld7 => ?_)
       clear hK K hNEW hown6 hgr6 hBW
       try simp only [Act.put, sA, sZ, sS]
       refine wpAnyH_take (i := 6) (oi := { dst := some 58, op := Op.fieldAddr 35 (Operand.tmp 3) 1, type := 0, pos := "optext.go:148", after := #[{ on := 0, ground := Ground.phase }, { on := 1, ground := Ground.phase }, { on := 2, ground := Ground.phase }, { on := 3, ground := Ground.phase }, { on := 4, ground := Ground.phase }, { on := 5, ground := Ground.phase }], guard := none }) (v := ?d4_v6) rfl (by kernel_rfl) (by kernel_rfl) (by kernel_rfl) (fun _ _ _ h => h) (Or.inl ⟨by rfl, ?d4_y6⟩) (by assumption) ?d4_r6
       case d4_y6 => (intro w hSw; (try dsimp only at hSw); go_simp; try (with_reducible rfl))
       try simp only [Act.put, sA, sZ, sS]
       refine wpAnyH_ready (rs := [7]) (by kernel_rfl) (by simp) ?_
       refine AllReadyH.cons (o := { dst := none, op := Op.store 33 (Operand.tmp 58) (Operand.tmp 57), type := 0, pos := "optext.go:148", after := #[{ on := 6, ground := Ground.data }, { on := 5, ground := Ground.data }, { on := 5, ground := Ground.chain }, { on := 0, ground := Ground.phase }, { on := 1, ground := Ground.phase }, { on := 2, ground := Ground.phase }, { on := 3, ground := Ground.phase }, { on := 4, ground := Ground.phase }, { on := 5, ground := Ground.phase }], guard := none }) rfl (fun K hK => ?_) (AllReadyH.nil)
       have r1 : w6.cell? ⟨g, 1, none⟩ = some (.slice A acc.length c) := HC6.out.cell 1
       have f1 : w6.frozen? ⟨g, 1, none⟩ = false := HC6.out.frozen 1
       go_simp
       obtain ⟨U7, hU7⟩ : ∃ U7, U7 = (w6.setCell ⟨g, 1, none⟩ (.slice A6 (acc.length + 1) c6)) := ⟨_, rfl⟩
       have HC7 : Hid (Blk U7 g 35 #[.int .i64 R1, .slice A6 (acc ++ [(v : Int)]).length c6]) := hi_ (by rw [hU7, List.length_append]; exact HC6.out.set_ 1 _)
       have HB7 : Hid (Blk U7 w.heap.size 120 #[pR r]) := hi_ (by rw [hU7]; exact HB6.out.far (by have := HNG.out; simp; omega) _)
       have HR7 : Hid (Blk U7 (w.heap.size + 1) 35 #[.int .i64 0, .slice none 0 0]) := hi_ (by rw [hU7]; exact HR6.out.far (by have := HNG.out; simp; omega) _)
       have HS7 : Hid (OSt W w U7 r s5) := hi_ (by rw [hU7]; have h := HNG.out; have h2 := HBW.out; exact HS6.out.set (by omega) (by omega) h.1 h.2.1 h.2.2.1 1 _)
       have HO7 : Hid (U7.ownsRow Z.heap.size 66 1 (.slice A6 (acc ++ [(v : Int)]).length c6) (acc ++ [(v : Int)]).length ((acc ++ [(v : Int)]).flatMap ucell)) := hi_ (by rw [hU7, List.length_append, List.flatMap_append]; exact own_setO HO6.out (p := ⟨g, 1, none⟩) (fun e => by have t1 : Z.heap.size ≤ g := (HOl.out _ e).1; have t2 := HZG.out; omega) _)
       have HZ7 : Hid (Z.heap.size ≤ U7.heap.size) := hi_ (by rw [hU7]; simpa [World.setCell] using HZ6.out)
       have hNEW : (w6.setCell ⟨g, 1, none⟩ (.slice A6 (acc.length + 1) c6)).cell? ⟨w.heap.size, 0, none⟩ = some (pR r) := by rw [← hU7]; exact HB7.out.cell 0
       refine hK.out _ _ hNEW (fun hHeld8 => ?_)
       clear hK K hNEW
       rw [← hU7]
       clear hU7 r1 f1
       refine wpAnyH_done (by kernel_rfl) ?_ _
       go_wp2
       go_roundw
       case rel => exact ⟨n, acc ++ [(v : Int)], A6, c6, s5, false, rfl, by rw [List.length_append]; simp; omega, HF5, HA5, HO7, HC7, HB7, HR7, HS7, HZ7⟩
       case measure => have hu := HC7.out.cell 1; have hv := HCW.out; have := HLn.out; rw [hu, hv]; show 5000 - (acc ++ [(v : Int)]).length < 5000 - acc.length; rw [List.length_append]; simp only [List.length_cons, List.length_nil]; omega
      ·
       skip
       go_simp
       obtain ⟨U, hU⟩ : ∃ U, U = (w4.alloc (.cells #[.int .u32 v] 66)) := ⟨_, rfl⟩
       have HBU : Hid (Below w4.heap.size w4 U) := hi_ (by rw [hU]; exact below1 _ _)
       have HNW : Hid (Blk U w4.heap.size 66 #[.int .u32 v]) := hi_ (by rw [hU]; exact show Blk (w4.alloc _) _ _ _ from Blk.new w4 _ _)
       have HSU := hi_ (HS4.out.below HBU.out)
       have HZU : Hid (Z.heap.size ≤ U.heap.size) := hi_ (Nat.le_trans HZ4.out HBU.out.size)
       have HOU := hi_ (ownsRow_below HO4.out HBU.out)
       have HCU := hi_ (HC4.out.below HBU.out HC4.out.lt)
       have HB5 := hi_ (HB4.out.below HBU.out HB4.out.lt)
       have HR5 := hi_ (HR4.out.below HBU.out HR4.out.lt)
       have hNEW : (w4.alloc (.cells #[.int .u32 v] 66)).cell? ⟨w.heap.size, 0, none⟩ = some (pR r) := by rw [← hU]; exact HB5.out.cell 0
       refine hK.out _ _ hNEW (fun hHeld6 => ?_)
       clear hK K hNEW
       rw [← hU]
       clear hU
       refine wpAnyH_ready (rs := [1]) (by kernel_rfl) (by simp) ?_
       refine AllReadyH.cons (o := { dst := some 53, op := Op.load 33 (Operand.tmp 52), type := 33, pos := "optext.go:148", after := #[{ on := 0, ground := Ground.data }], guard := none }) rfl (fun K hK => ?_) (AllReadyH.nil)
       have cg := HCU.out.cell 1
       go_simp
       refine hK.out _ _ (HB5.out.cell 0) (fun hHeldL => ?_)
       clear hK K cg
       try simp only [Act.put, sA, sZ, sS]
       refine wpAnyH_ready (rs := [5]) (by kernel_rfl) (by simp) ?_
       refine AllReadyH.cons (o := { dst := some 57, op := Op.call { callee := Callee.builtin Builtin.append, args := #[Operand.tmp 53, Operand.tmp 56], argTypes := #[33, 33] }, type := 33, pos := "optext.go:148", after := #[{ on := 1, ground := Ground.data }, { on := 4, ground := Ground.data }, { on := 3, ground := Ground.chain }], guard := none }) rfl (fun K hK => ?_) (AllReadyH.nil)
       rw [if_pos (by rfl)]
       refine opwp_append_O (.tmp 53) (.tmp 56) 33 rfl Z.heap.size 66 i0 _ 1 4 Tryz.underlying33 hi hz0 hz1 hz2 rfl (by decide) _ _ _ rfl HOU.out ⟨[(v : Int)], some ⟨w4.heap.size, 0, none⟩, 1⟩ rfl (one_u32 HNW.out) (fun h => by cases h) (fun _ => rfl) one_uc ?g1q6 ?g2q6 ?g3q6 ?_
       case g1q6 => have := HLn.out; unfold maxLen; simp only [List.length_cons, List.length_nil]; omega
       case g2q6 => have := HLn.out; simp only [List.length_cons, List.length_nil]; omega
       case g3q6 => exact HZU.out
       intro v6 w6 hown6 hgr6
       have hBW : Below Z.heap.size U w6 := grown_below HOU.out hgr6 HZU.out
       have HZ6 : Hid (Z.heap.size ≤ w6.heap.size) := hi_ (Nat.le_trans HZU.out hBW.size)
       have HS6 : Hid (OSt W w w6 r s5) := hi_ (HSU.out.above hBW HZW.out.1 HZW.out.2 ⟨HZL.out.1, HZL.out.2.1, HZL.out.2.2⟩)
       have HC6 : Hid (Blk w6 g 35 #[.int .i64 R1, .slice A acc.length c]) := hi_ (HCU.out.below hBW HZG.out)
       have HB6 : Hid (Blk w6 w.heap.size 120 #[pR r]) := hi_ (HB5.out.below hBW HZB.out.1)
       have HR6 : Hid (Blk w6 (w.heap.size + 1) 35 #[.int .i64 0, .slice none 0 0]) := hi_ (HR5.out.below hBW HZB.out.2)
       obtain ⟨A6, c6, rfl⟩ := row_sliceO hown6
       have HOl := hi_ (own_ltO hown6)
       have HO6 := hi_ hown6
       have hNEW : w6.cell? ⟨w.heap.size, 0, none⟩ = some (pR r) := HB6.out.cell 0
       refine hK.out _ _ hNEW (fun hHeld7 => ?_)
       clear hK K hNEW hown6 hgr6 hBW
       try simp only [Act.put, sA, sZ, sS]
       refine wpAnyH_take (i := 6) (oi := { dst := some 58, op := Op.fieldAddr 35 (Operand.tmp 3) 1, type := 0, pos := "optext.go:148", after := #[{ on := 0, ground := Ground.phase }, { on := 1, ground := Ground.phase }, { on := 2, ground := Ground.phase }, { on := 3, ground := Ground.phase }, { on := 4, ground := Ground.phase }, { on := 5, ground := Ground.phase }], guard := none }) (v := ?d5_v6) rfl (by kernel_rfl) (by kernel_rfl) (by kernel_rfl) (fun _ _ _ h => h) (Or.inl ⟨by rfl, ?d5_y6⟩) (by assumption) ?d5_r6
       case d5_y6 => (intro w hSw; (try dsimp only at hSw); go_simp; try (with_reducible rfl))
       try simp only [Act.put, sA, sZ, sS]
       refine wpAnyH_ready (rs := [7]) (by kernel_rfl) (by simp) ?_
       refine AllReadyH.cons (o := { dst := none, op := Op.store 33 (Operand.tmp 58) (Operand.tmp 57), type := 0, pos := "optext.go:148", after := #[{ on := 6, ground := Ground.data }, { on := 5, ground := Ground.data }, { on := 5, ground := Ground.chain }, { on := 0, ground := Ground.phase }, { on := 1, ground := Ground.phase }, { on := 2, ground := Ground.phase }, { on := 3, ground := Ground.phase }, { on := 4, ground := Ground.phase }, { on := 5, ground := Ground.phase }], guard := none }) rfl (fun K hK => ?_) (AllReadyH.nil)
       have r1 : w6.cell? ⟨g, 1, none⟩ = some (.slice A acc.length c) := HC6.out.cell 1
       have f1 : w6.frozen? ⟨g, 1, none⟩ = false := HC6.out.frozen 1
       go_simp
       obtain ⟨U7, hU7⟩ : ∃ U7, U7 = (w6.setCell ⟨g, 1, none⟩ (.slice A6 (acc.length + 1) c6)) := ⟨_, rfl⟩
       have HC7 : Hid (Blk U7 g 35 #[.int .i64 R1, .slice A6 (acc ++ [(v : Int)]).length c6]) := hi_ (by rw [hU7, List.length_append]; exact HC6.out.set_ 1 _)
       have HB7 : Hid (Blk U7 w.heap.size 120 #[pR r]) := hi_ (by rw [hU7]; exact HB6.out.far (by have := HNG.out; simp; omega) _)
       have HR7 : Hid (Blk U7 (w.heap.size + 1) 35 #[.int .i64 0, .slice none 0 0]) := hi_ (by rw [hU7]; exact HR6.out.far (by have := HNG.out; simp; omega) _)
       have HS7 : Hid (OSt W w U7 r s5) := hi_ (by rw [hU7]; have h := HNG.out; have h2 := HBW.out; exact HS6.out.set (by omega) (by omega) h.1 h.2.1 h.2.2.1 1 _)
       have HO7 : Hid (U7.ownsRow Z.heap.size 66 1 (.slice A6 (acc ++ [(v : Int)]).length c6) (acc ++ [(v : Int)]).length ((acc ++ [(v : Int)]).flatMap ucell)) := hi_ (by rw [hU7, List.length_append, List.flatMap_append]; exact own_setO HO6.out (p := ⟨g, 1, none⟩) (fun e => by have t1 : Z.heap.size ≤ g := (HOl.out _ e).1; have t2 := HZG.out; omega) _)
       have HZ7 : Hid (Z.heap.size ≤ U7.heap.size) := hi_ (by rw [hU7]; simpa [World.setCell] using HZ6.out)
       have hNEW : (w6.setCell ⟨g, 1, none⟩ (.slice A6 (acc.length + 1) c6)).cell? ⟨w.heap.size, 0, none⟩ = some (pR r) := by rw [← hU7]; exact HB7.out.cell 0
       refine hK.out _ _ hNEW (fun hHeld8 => ?_)
       clear hK K hNEW
       rw [← hU7]
       clear hU7 r1 f1
       refine wpAnyH_done (by kernel_rfl) ?_ _
       go_wp2
       go_roundw
       case rel => exact ⟨n, acc ++ [(v : Int)], A6, c6, s5, false, rfl, by rw [List.length_append]; simp; omega, HF5, HA5, HO7, HC7, HB7, HR7, HS7, HZ7⟩
       case measure => have hu := HC7.out.cell 1; have hv := HCW.out; have := HLn.out; rw [hu, hv]; show 5000 - (acc ++ [(v : Int)]).length < 5000 - acc.length; rw [List.length_append]; simp only [List.length_cons, List.length_nil]; omega
theorem act_ident {p : ProgD} (h : checkM p = none) {j : Nat} (hj : j < p.actions.l.length) : ident p.actions.l[j].name = true := by
 have h1 := firstE_inv (check_parts h).1 j hj
 rw [actAtM_at p j hj] at h1
 by_cases h2 : (actM p p.actions.l[j]).2 ≠ 0
 · rw [if_pos h2] at h1; cases h1
 ·
  generalize p.actions.l[j] = a at *
  rw [actM_eq] at h2
  by_cases h3 : declarM a ≠ 0
  · rw [if_pos h3] at h2; exact absurd h3 h2
  ·
   have h4 : declarM a = 0 := Classical.byContradiction h3
   rw [declarM_eq] at h4
   split at h4
   · cases h4
   ·
    rename_i h5
    simpa using h5
theorem tab_ident {p : ProgD} (h : checkM p = none) {j : Nat} (hj : j < p.tables.l.length) : ident p.tables.l[j].name = true := by
 have h4 := (tab_fine h hj).ok
 unfold tabM at h4
 split at h4
 · cases h4
 ·
  rename_i h5
  simpa using h5
theorem ident_list (s : ByteArray) : identM s.data.toList = ident s := rfl
theorem ident_len {l : List UInt8} (h : identM l = true) : l.length ≤ 16 := by
 match l, h with
 | c :: r, h =>
  simp only [identM, Bool.and_eq_true, decide_eq_true_eq] at h
  exact h.1.1
theorem nameA_at {p : ProgD} {j : Nat} (hj : j < p.actions.l.length) : nameA p (j : Int) = p.actions.l[j].name.data.toList := by
 rw [nameA, Int.toNat_natCast, List.getElem?_eq_getElem hj]; rfl
theorem nameT_at {p : ProgD} {j : Nat} (hj : j < p.tables.l.length) : nameT p (j : Int) = p.tables.l[j].name.data.toList := by
 rw [nameT, Int.toNat_natCast, List.getElem?_eq_getElem hj]; rfl
theorem callM_zero {p : ProgD} {a : Int} {args : List Int} (h : callM p a args = 0) : ∃ j : Nat, a = j ∧ ∃ hj : j < p.actions.l.length, args.length = p.actions.l[j].params.l.length := by
 unfold callM at h
 by_cases h0 : a < 0
 · rw [if_pos h0] at h; cases h
 ·
  rw [if_neg h0] at h
  refine ⟨a.toNat, by omega, ?_⟩
  by_cases hj : a.toNat < p.actions.l.length
  ·
   refine ⟨hj, ?_⟩
   rw [List.getElem?_eq_getElem hj] at h
   simp only at h
   by_cases h1 : args.length ≠ p.actions.l[a.toNat].params.l.length
   · rw [if_pos h1] at h; cases h
   · exact Classical.not_not.1 h1
  · rw [List.getElem?_eq_none (by omega)] at h; cases h
def GoodCall (p : ProgD) (a : Int) (args : List Int) : Prop := ∃ j : Nat, a = j ∧ ∃ hj : j < p.actions.l.length, args.length ≤ 4 ∧ p.actions.l[j].name.size ≤ 16
theorem may_good {p : ProgD} (hc : checkM p = none) {t : TabD} {a : Int} {args : List Int} (h : mayM p t a args = 0) : GoodCall p a args := by
 unfold mayM at h
 by_cases h1 : a ∈ t.acts.l
 ·
  rw [if_pos h1] at h
  obtain ⟨j, e, hj, hl⟩ := callM_zero h
  refine ⟨j, e, hj, ?_, ident_len (act_ident hc hj)⟩
  rw [hl]
  exact (par_fine hc _ (List.getElem_mem hj)).1
 · rw [if_neg h1] at h; cases h
structure GoodOp (p : ProgD) (o : OpP) : Prop where
 kind : o.kind = 1 ∨ o.kind = 2 ∨ o.kind = 3 ∨ o.kind = 4
 table : ∃ i : Nat, o.table = i ∧ ∃ hi : i < p.tables.l.length, p.tables.l[i].name.size ≤ 16
 ins : o.kind = 1 → o.keys.length ≤ 6 ∧ 0 ≤ o.prio ∧ o.prio ≤ 255 ∧ GoodCall p o.ea o.eargs
 call : o.kind = 2 ∨ o.kind = 4 → GoodCall p o.ca o.cargs
theorem good_op {p : ProgD} (hc : checkM p = none) {o : OpP} (h : opChk p o = 0) : GoodOp p o := by
 unfold opChk at h
 by_cases h1 : o.kind < 1 ∨ 4 < o.kind
 · rw [if_pos h1] at h; cases h
 rw [if_neg h1] at h
 by_cases h2 : o.table < 0
 · rw [if_pos h2] at h; cases h
 rw [if_neg h2] at h
 by_cases hi : o.table.toNat < p.tables.l.length
 case neg => rw [List.getElem?_eq_none (by omega)] at h; cases h
 rw [List.getElem?_eq_getElem hi] at h
 simp only at h
 have hn := ident_len (tab_ident hc hi)
 have hf := (tab_fine hc hi).keys
 have hsz : p.tables.l[o.table.toNat].name.size ≤ 16 := hn
 obtain ⟨t, ht⟩ : ∃ t, t = p.tables.l[o.table.toNat] := ⟨_, rfl⟩
 rw [← ht] at h hf
 refine ⟨by omega, ⟨o.table.toNat, by omega, hi, ?_⟩, fun hk => ?_, fun hk => ?_⟩
 · exact hsz
 ·
  rw [if_pos hk] at h
  unfold entM at h
  by_cases h3 : o.keys.length ≠ t.keys.l.length
  · rw [if_pos h3] at h; cases h
  rw [if_neg h3] at h
  rcases hfe : firstE t.keys.l.length (keyErrM p o.keys t.keys.l) with _ | e
  ·
   rw [hfe] at h
   simp only at h
   by_cases h4 : o.prio < 0 ∨ 255 < o.prio
   · rw [if_pos h4] at h; cases h
   rw [if_neg h4] at h
   by_cases h5 : o.prio ≠ 0 ∧ kindT t.keys.l ≠ 3
   · rw [if_pos h5] at h; cases h
   rw [if_neg h5] at h
   exact ⟨by omega, by omega, by omega, may_good hc h⟩
  ·
   exfalso
   rw [hfe] at h
   simp only at h
   subst h
   obtain ⟨i, hi, h9, _⟩ := firstE_ex hfe
   unfold keyErrM at h9
   split at h9
   ·
    split at h9
    ·
     rename_i h10
     injection h9 with h9
     exact h10 h9
    · cases h9
   · cases h9
 ·
  have h6 : o.kind ≠ 1 := by omega
  rw [if_neg h6] at h
  by_cases h7 : o.kind ≠ 4 ∧ (o.id < 1 ∨ 1073741824 < o.id)
  · rw [if_pos h7] at h; cases h
  rw [if_neg h7] at h
  by_cases h8 : o.kind = 3
  · omega
  rw [if_neg h8] at h
  exact may_good hc h
theorem itoa_nonneg (n : Int) (h : 0 ≤ n) (h1 : n ≤ 9223372036854775807) : Lib.itoa n = dec n.toNat := by
 rw [Lib.itoa, if_neg (by omega), dec, dec_eq 20 _ (by omega) (by omega)]
theorem itoa_neg (n : Int) (h : n < 0) (h0 : -9223372036854775808 ≤ n) : Lib.itoa n = 45 :: dec n.natAbs := by
 rw [Lib.itoa, if_pos h, dec, dec_eq 20 _ (by omega) (by omega)]
end Go.Proofs.YtofjapcgbajmiaaGreatDoor
