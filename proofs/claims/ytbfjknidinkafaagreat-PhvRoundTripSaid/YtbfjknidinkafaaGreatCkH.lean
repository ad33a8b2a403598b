/- The walk of package expr's check of a subexpression, and of Check. No condition but that program and nodes lie in memory. -/
import Derived.Test.YtbfjknidinkafaaGreatCkG
namespace Go.Proofs.YtbfjknidinkafaaGreat
open Go.RowKit

theorem wideM_fine (n : Int) (h : (wideM n).2 = 0) : 1 ≤ (wideM n).1 ∧ (wideM n).1 ≤ 32 := by
  unfold wideM at *
  split
  · exact okW_iff.1 (by assumption)
  · rename_i h1
    rw [if_neg h1] at h
    cases h
theorem primM_fine (p : ProgD) (ps : List FieldD) (x : NodeD) (h : (primM p ps x).2 = 0) : 1 ≤ (primM p ps x).1 ∧ (primM p ps x).1 ≤ 32 := by
  unfold primM at *
  split at h
  · rename_i h1
    rw [if_pos h1]
    split at h
    · rename_i h2
      rw [if_pos h2]
      split at h
      · cases h
      · rename_i h3
        rw [if_neg h3]
        exact okW_iff.1 h2
    · cases h
  · rename_i h1
    rw [if_neg h1]
    split at h
    · rename_i h2
      rw [if_pos h2]
      split at h
      · cases h
      · exact wideM_fine _ h
    · rename_i h2
      rw [if_neg h2]
      split at h
      · rename_i h3
        rw [if_pos h3]
        split at h
        · cases h
        · rename_i h4
          rw [if_neg h4]
          split at h
          · cases h
          · exact wideM_fine _ h
      · rename_i h3
        rw [if_neg h3]
        split at h
        · cases h
        · rename_i h4
          rw [if_neg h4]
          exact ⟨by decide, by decide⟩
theorem combM_fine (x : NodeD) (a b c : Int) (ha : 1 ≤ a ∧ a ≤ 32) (hb : x.op = 17 → 1 ≤ b ∧ b ≤ 32) (h : (combM x a b c).2 = 0) : 1 ≤ (combM x a b c).1 ∧ (combM x a b c).1 ≤ 32 := by
  unfold combM at *
  split at h
  · rename_i h1
    rw [if_pos h1]
    split at h
    · cases h
    · rename_i h2
      rw [if_neg h2]; exact ha
  · rename_i h1
    rw [if_neg h1]
    split at h
    · rename_i h2
      rw [if_pos h2]
      split at h
      · cases h
      · rename_i h3
        rw [if_neg h3]
        split at h
        · cases h
        · rename_i h4
          rw [if_neg h4]
          have : okW x.w = true := by
            cases hv : okW x.w
            · exact absurd (Or.inl hv) h4
            · rfl
          exact okW_iff.1 this
    · rename_i h2
      rw [if_neg h2]
      split at h
      · rename_i h3
        rw [if_pos h3]
        exact wideM_fine _ h
      · rename_i h3
        rw [if_neg h3]
        split at h
        · rename_i h4
          rw [if_pos h4]
          split at h
          · cases h
          · rename_i h5
            rw [if_neg h5]; exact hb h4
        · rename_i h4
          rw [if_neg h4]
          split at h
          · cases h
          · rename_i h5
            rw [if_neg h5]
            split
            · exact ⟨by decide, by decide⟩
            · exact ha

/-- a subexpression that passes ends behind its start and has a width -/
theorem chkM_fine (p : ProgD) (ps : List FieldD) (l : List NodeD) : ∀ (m i : Nat), (chkM p ps l m i).2.2 = 0 → i < (chkM p ps l m i).2.1 ∧ (chkM p ps l m i).2.1 ≤ l.length ∧ 1 ≤ (chkM p ps l m i).1 ∧ (chkM p ps l m i).1 ≤ 32
  | 0, i, h => by rw [chkM] at h; cases h
  | m + 1, i, h => by
    rw [chkM] at h ⊢
    rcases hx : l[i]? with _ | x
    · rw [hx] at h; cases h
    rw [hx] at h
    simp only at h ⊢
    have hi : i < l.length := (List.getElem?_eq_some_iff.1 hx).1
    by_cases k1 : arityM x.op < 0
    · rw [if_pos k1] at h; cases h
    rw [if_neg k1] at h ⊢
    by_cases k2 : arityM x.op = 0
    · rw [if_pos k2] at h ⊢
      exact ⟨Nat.lt_succ_self i, hi, primM_fine p ps x h⟩
    rw [if_neg k2] at h ⊢
    have f1 := chkM_fine p ps l m (i + 1)
    generalize chkM p ps l m (i + 1) = r1 at *
    by_cases k3 : r1.2.2 = 0
    · rw [if_neg (by simp [k3])] at h ⊢
      obtain ⟨g1, g2, g3⟩ := f1 k3
      by_cases k4 : arityM x.op = 1
      · rw [if_pos k4] at h ⊢
        exact ⟨by simp only; omega, g2, combM_fine x _ _ _ g3 (fun e => by rw [e] at k4; revert k4; decide) h⟩
      rw [if_neg k4] at h ⊢
      have f2 := chkM_fine p ps l m r1.2.1
      generalize chkM p ps l m r1.2.1 = r2 at *
      by_cases k5 : r2.2.2 = 0
      · rw [if_neg (by simp [k5])] at h ⊢
        obtain ⟨g4, g5, g6⟩ := f2 k5
        by_cases k6 : arityM x.op = 2
        · rw [if_pos k6] at h ⊢
          exact ⟨by simp only; omega, g5, combM_fine x _ _ _ g3 (fun _ => g6) h⟩
        rw [if_neg k6] at h ⊢
        have f3 := chkM_fine p ps l m r2.2.1
        generalize chkM p ps l m r2.2.1 = r3 at *
        by_cases k7 : r3.2.2 = 0
        · rw [if_neg (by simp [k7])] at h ⊢
          obtain ⟨g7, g8, g9⟩ := f3 k7
          exact ⟨by simp only; omega, g8, combM_fine x _ _ _ g3 (fun _ => g6) h⟩
        · rw [if_pos k7] at h; exact absurd h k7
      · rw [if_pos k5] at h; exact absurd h k5
    · rw [if_pos k3] at h; exact absurd h k3
theorem arityM_cases (op : Int) : arityM op = -1 ∨ arityM op = 0 ∨ (arityM op = 1 ∧ 5 ≤ op ∧ op ≤ 17) ∨ (arityM op = 2 ∧ 5 ≤ op ∧ op ≤ 17) ∨ (arityM op = 3 ∧ 5 ≤ op ∧ op ≤ 17) := by
  unfold arityM
  repeat' split
  all_goals omega

theorem ret_ppp {a b c : Int} {r : Int × Nat × Int} (h1 : r.1 = a) (h2 : (r.2.1 : Int) = b) (h3 : r.2.2 = c) :
    Ending.returned (.tuple #[.int .i64 a, .int .i64 b, .int .i64 c]) = .returned (.tuple #[.int .i64 r.1, .int .i64 (r.2.1 : Int), .int .i64 r.2.2]) := by rw [h1, h2, h3]
@[reducible] def arr3 (a b c : Int) : Array Value := #[.int .i64 a, .int .i64 b, .int .i64 c]

set_option maxRecDepth 100000 in
set_option maxHeartbeats 8000000 in
theorem chk_any (p : ProgD) (ps : L FieldD) (x : L NodeD) (hle : x.l.length ≤ 24) : ∀ (m i : Nat) (w : World), x.l.length < i + m → i ≤ x.l.length → ProgOk w p → LOk w 2 FieldD.cells ps → LOk w 3 NodeD.cells x →
    Calls Tryz.prog 211 #[.agg (scopeCells p ps), .slice x.A x.l.length x.c, .int .i64 i] w fun e w' =>
      e = .returned (.tuple #[.int .i64 (chkM p ps.l x.l m i).1, .int .i64 ((chkM p ps.l x.l m i).2.1 : Int), .int .i64 (chkM p ps.l x.l m i).2.2]) ∧ Below w.heap.size w w'
  | 0, i, w, h1, h2, _, _, _ => absurd h1 (by omega)
  | m + 1, i, w, h1, h2, o, hps, hx => by
    have IH := Lib.hid (chk_any p ps x hle m)
    have HO := Lib.hid o
    have HP := Lib.hid hps
    have HX := Lib.hid hx
    have HC := Lib.hid (chkM.eq_2 p ps.l x.l i m)
    clear o hps hx
    obtain ⟨W, hW, hw, HB, hp⟩ := box1 w (scopeCells p ps) 217
    have HW := Lib.hid hw
    clear hw
    by_cases k0 : i < x.l.length
    case neg =>
      have HR : Hid (chkM p ps.l x.l (m + 1) i = (0, 0, 3)) := Lib.hid (by rw [HC.out, List.getElem?_eq_none (by omega)])
      go_enter Tryz.func211, Tryz.ntmps211
      go_wp2
      go_ret3
      exact ⟨ret_ppp (by rw [HR.out]) (by rw [HR.out]; rfl) (by rw [HR.out]), below1 _ _⟩
    case pos =>
      have HC2 := Lib.hid (show chkM p ps.l x.l (m + 1) i = _ by rw [HC.out, List.getElem?_eq_getElem k0])
      simp only at HC2
      obtain ⟨g, of, hA, hq⟩ := NodeD.atA (HX.out.below HW.out (Nat.le_refl _)) k0
      clear HC
      generalize x.l[i] = y at *
      obtain ⟨op, n, wd⟩ := y
      simp only at hq HC2
      simp only [hA]
      have IH2 : Hid (∀ (j : Nat) (w' : World), i < j → j ≤ x.l.length → Below W.heap.size W w' →
          Calls Tryz.prog 211 #[.agg (scopeCells p ps), .slice (some ⟨g, of, none⟩) x.l.length x.c, .int .i64 j] w' fun e w2 =>
            e = .returned (.tuple #[.int .i64 (chkM p ps.l x.l m j).1, .int .i64 ((chkM p ps.l x.l m j).2.1 : Int), .int .i64 (chkM p ps.l x.l m j).2.2]) ∧ Below w'.heap.size w' w2) :=
        Lib.hid (by
          intro j w' h3 h4 hb
          have := IH.out j w' (by omega) h4 (HO.out.below (below_step HW.out hb)) (HP.out.below (below_step HW.out hb) (Nat.le_refl _)) (HX.out.below (below_step HW.out hb) (Nat.le_refl _))
          rw [hA] at this
          exact this)
      have hca := @World.cell?_alloc_some
      have hn1 : (i : Int) < (x.l.length : Int) := by omega
      have hn2 : (i : Int) + 1 ≤ (x.l.length : Int) := by omega
      clear IH h1 h2 hA
      have hk := arityM_cases op
      go_enter Tryz.func211, Tryz.ntmps211
      go_upto_region 1 with fail
      rw [← hW]
      clear hW
      go_wp2_with fail
      refine (arity_any op _).mono ?_
      rintro e w' ⟨rfl, rfl⟩
      generalize hko : arityM op = ko at *
      rcases hk with rfl | rfl | ⟨rfl, o1, o2⟩ | ⟨rfl, o1, o2⟩ | ⟨rfl, o1, o2⟩
      · have HR : Hid (chkM p ps.l x.l (m + 1) i = (0, 0, 11)) := Lib.hid (by rw [HC2.out]; rfl)
        go_wp2
        go_ret3
        exact ⟨ret_ppp (by rw [HR.out]) (by rw [HR.out]; rfl) (by rw [HR.out]), below_step HW.out HB⟩
      · have HR : Hid (chkM p ps.l x.l (m + 1) i = ((primM p ps.l ⟨op, n, wd⟩).1, i + 1, (primM p ps.l ⟨op, n, wd⟩).2)) := Lib.hid (by rw [HC2.out]; rfl)
        have H0 := Lib.hid HB
        clear HB
        go_wp2
        go_region_held3 (fun w' => Below W.heap.size W w') (first | exact H0.out | exact below_drew H0.out | (exact below_step (by assumption) (by assumption)) | assumption)
          (first | (go_at_call 217; refine (primary_any p ps op n wd _ (HO.out.below (below_step HW.out (by assumption))) (HP.out.below (below_step HW.out (by assumption)) (Nat.le_refl _))).mono ?_; rintro e w1 ⟨rfl, hb1⟩))
        have HB5 : Hid (Below W.heap.size W _) := Lib.hid (by assumption)
        have HB := HB5.out
        go_wp2
        go_ret3
        exact ⟨ret_ppp (by rw [HR.out]) (by rw [HR.out]; simp only; omega) (by rw [HR.out]), below_step HW.out HB⟩
      · skip
        refine Exists.elim (⟨_, rfl⟩ : ∃ U, U = W.alloc (.cells (arr3 0 0 0) 85)) fun U hU => ?_
        have hB : Blk U W.heap.size 85 (arr3 0 0 0) := by rw [hU]; exact Blk.new _ _ _
        replace HB : Below W.heap.size W U := by rw [hU]; exact below1 _ _
        go_wp2
        rw [← hU]
        clear hU
        refine wp_loop_rounds 2 ?_
        rw [rounds_succ]
        have f1 := chkM_fine p ps.l x.l m (i + 1)
        go_wp2_with fail
        have hI := IH2.out (i + 1) _ (by omega) (by omega) HB
        rw [show ((i + 1 : Nat) : Int) = (i : Int) + 1 by omega] at hI
        refine hI.mono ?_
        clear hI
        rintro e v ⟨rfl, hbN⟩
        replace hB := hB.below hbN hB.lt
        replace HB := below_step HB hbN
        clear hbN
        generalize hr1 : chkM p ps.l x.l m (i + 1) = r1 at *
        obtain ⟨a1, t1, c1⟩ := r1
        simp only at f1
        have z0 : v.cell? ⟨W.heap.size, 0, none⟩ = some (.int .i64 0) := hB.cell 0
        have z1 : v.frozen? ⟨W.heap.size, 0, none⟩ = false := hB.frozen 0
        refine Exists.elim (⟨_, rfl⟩ : ∃ V, V = v.setCell ⟨W.heap.size, 0, none⟩ (.int .i64 a1)) fun V hV => ?_
        replace hB : Blk V W.heap.size 85 (arr3 a1 0 0) := by rw [hV]; exact hB.set_ 0 _
        replace HB : Below W.heap.size W V := by rw [hV]; exact HB.setCell (Nat.le_refl _) _
        by_cases kc : c1 = 0
        case neg =>
          have HR : Hid (chkM p ps.l x.l (m + 1) i = (0, 0, c1)) := Lib.hid (by rw [HC2.out]; simp [kc])
          have kc' : (c1 == 0) = false := beq_eq_false_iff_ne.2 kc
          go_wp2
          rw [← hV]
          go_ret3
          exact ⟨ret_ppp (by rw [HR.out]) (by rw [HR.out]; rfl) (by rw [HR.out]), below_step HW.out HB⟩
        subst kc
        obtain ⟨p11, p12, p13, p14⟩ := f1 rfl
        clear f1
        go_wp2
        rw [← hV]
        clear hV z0 z1
        rw [rounds_succ]
        have hq2 := fun w' h => hq w' (below_step HB h)
        have ha : ∀ w', Below V.heap.size V w' → w'.cell? ⟨W.heap.size, 0, none⟩ = some (.int .i64 a1) ∧ w'.cell? ⟨W.heap.size, 1, none⟩ = some (.int .i64 0) ∧ w'.cell? ⟨W.heap.size, 2, none⟩ = some (.int .i64 0) :=
          fun w' h => ⟨below_cell h (hB.cell 0), below_cell h (hB.cell 1), below_cell h (hB.cell 2)⟩
        have HR : Hid (chkM p ps.l x.l (m + 1) i = ((combM ⟨op, n, wd⟩ a1 0 0).1, t1, (combM ⟨op, n, wd⟩ a1 0 0).2)) := Lib.hid (by rw [HC2.out]; simp)
        have H0 := Lib.hid (Below.refl V.heap.size V)
        have HV := Lib.hid HB
        clear HB hq
        go_wp2
        go_region_held3 (fun w' => Below V.heap.size V w') (first | exact H0.out | exact below_drew H0.out | (exact below_step (by assumption) (by assumption)) | assumption)
          (first | (go_at_call 218; refine (combine_any op n wd a1 0 0 _ o1 o2 (by omega) (by omega)).mono ?_; rintro e w1 ⟨rfl, hb1⟩))
        have HB5 : Hid (Below V.heap.size V _) := Lib.hid (by assumption)
        go_wp2
        go_ret3
        exact ⟨ret_ppp (by rw [HR.out]) (by rw [HR.out]) (by rw [HR.out]), below_step HW.out (below_step HV.out HB5.out)⟩
      · skip
        refine Exists.elim (⟨_, rfl⟩ : ∃ U, U = W.alloc (.cells (arr3 0 0 0) 85)) fun U hU => ?_
        have hB : Blk U W.heap.size 85 (arr3 0 0 0) := by rw [hU]; exact Blk.new _ _ _
        replace HB : Below W.heap.size W U := by rw [hU]; exact below1 _ _
        go_wp2
        rw [← hU]
        clear hU
        refine wp_loop_rounds 3 ?_
        rw [rounds_succ]
        have f1 := chkM_fine p ps.l x.l m (i + 1)
        go_wp2_with fail
        have hI := IH2.out (i + 1) _ (by omega) (by omega) HB
        rw [show ((i + 1 : Nat) : Int) = (i : Int) + 1 by omega] at hI
        refine hI.mono ?_
        clear hI
        rintro e v ⟨rfl, hbN⟩
        replace hB := hB.below hbN hB.lt
        replace HB := below_step HB hbN
        clear hbN
        generalize hr1 : chkM p ps.l x.l m (i + 1) = r1 at *
        obtain ⟨a1, t1, c1⟩ := r1
        simp only at f1
        have z0 : v.cell? ⟨W.heap.size, 0, none⟩ = some (.int .i64 0) := hB.cell 0
        have z1 : v.frozen? ⟨W.heap.size, 0, none⟩ = false := hB.frozen 0
        refine Exists.elim (⟨_, rfl⟩ : ∃ V, V = v.setCell ⟨W.heap.size, 0, none⟩ (.int .i64 a1)) fun V hV => ?_
        replace hB : Blk V W.heap.size 85 (arr3 a1 0 0) := by rw [hV]; exact hB.set_ 0 _
        replace HB : Below W.heap.size W V := by rw [hV]; exact HB.setCell (Nat.le_refl _) _
        by_cases kc : c1 = 0
        case neg =>
          have HR : Hid (chkM p ps.l x.l (m + 1) i = (0, 0, c1)) := Lib.hid (by rw [HC2.out]; simp [kc])
          have kc' : (c1 == 0) = false := beq_eq_false_iff_ne.2 kc
          go_wp2
          rw [← hV]
          go_ret3
          exact ⟨ret_ppp (by rw [HR.out]) (by rw [HR.out]; rfl) (by rw [HR.out]), below_step HW.out HB⟩
        subst kc
        obtain ⟨p11, p12, p13, p14⟩ := f1 rfl
        clear f1
        go_wp2
        rw [← hV]
        clear hV z0 z1
        rw [rounds_succ]
        have f2 := chkM_fine p ps.l x.l m (t1)
        go_wp2_with fail
        have hI := IH2.out t1 _ (by omega) (by omega) HB
        refine hI.mono ?_
        clear hI
        rintro e v ⟨rfl, hbN⟩
        replace hB := hB.below hbN hB.lt
        replace HB := below_step HB hbN
        clear hbN
        generalize hr2 : chkM p ps.l x.l m (t1) = r2 at *
        obtain ⟨a2, t2, c2⟩ := r2
        simp only at f2
        have z0 : v.cell? ⟨W.heap.size, 1, none⟩ = some (.int .i64 0) := hB.cell 1
        have z1 : v.frozen? ⟨W.heap.size, 1, none⟩ = false := hB.frozen 1
        refine Exists.elim (⟨_, rfl⟩ : ∃ V, V = v.setCell ⟨W.heap.size, 1, none⟩ (.int .i64 a2)) fun V hV => ?_
        replace hB : Blk V W.heap.size 85 (arr3 a1 a2 0) := by rw [hV]; exact hB.set_ 1 _
        replace HB : Below W.heap.size W V := by rw [hV]; exact HB.setCell (Nat.le_refl _) _
        by_cases kc : c2 = 0
        case neg =>
          have HR : Hid (chkM p ps.l x.l (m + 1) i = (0, 0, c2)) := Lib.hid (by rw [HC2.out]; simp [kc])
          have kc' : (c2 == 0) = false := beq_eq_false_iff_ne.2 kc
          go_wp2
          rw [← hV]
          go_ret3
          exact ⟨ret_ppp (by rw [HR.out]) (by rw [HR.out]; rfl) (by rw [HR.out]), below_step HW.out HB⟩
        subst kc
        obtain ⟨p21, p22, p23, p24⟩ := f2 rfl
        clear f2
        go_wp2
        rw [← hV]
        clear hV z0 z1
        rw [rounds_succ]
        have hq2 := fun w' h => hq w' (below_step HB h)
        have ha : ∀ w', Below V.heap.size V w' → w'.cell? ⟨W.heap.size, 0, none⟩ = some (.int .i64 a1) ∧ w'.cell? ⟨W.heap.size, 1, none⟩ = some (.int .i64 a2) ∧ w'.cell? ⟨W.heap.size, 2, none⟩ = some (.int .i64 0) :=
          fun w' h => ⟨below_cell h (hB.cell 0), below_cell h (hB.cell 1), below_cell h (hB.cell 2)⟩
        have HR : Hid (chkM p ps.l x.l (m + 1) i = ((combM ⟨op, n, wd⟩ a1 a2 0).1, t2, (combM ⟨op, n, wd⟩ a1 a2 0).2)) := Lib.hid (by rw [HC2.out]; simp)
        have H0 := Lib.hid (Below.refl V.heap.size V)
        have HV := Lib.hid HB
        clear HB hq
        go_wp2
        go_region_held3 (fun w' => Below V.heap.size V w') (first | exact H0.out | exact below_drew H0.out | (exact below_step (by assumption) (by assumption)) | assumption)
          (first | (go_at_call 218; refine (combine_any op n wd a1 a2 0 _ o1 o2 (by omega) (by omega)).mono ?_; rintro e w1 ⟨rfl, hb1⟩))
        have HB5 : Hid (Below V.heap.size V _) := Lib.hid (by assumption)
        go_wp2
        go_ret3
        exact ⟨ret_ppp (by rw [HR.out]) (by rw [HR.out]) (by rw [HR.out]), below_step HW.out (below_step HV.out HB5.out)⟩
      · skip
        refine Exists.elim (⟨_, rfl⟩ : ∃ U, U = W.alloc (.cells (arr3 0 0 0) 85)) fun U hU => ?_
        have hB : Blk U W.heap.size 85 (arr3 0 0 0) := by rw [hU]; exact Blk.new _ _ _
        replace HB : Below W.heap.size W U := by rw [hU]; exact below1 _ _
        go_wp2
        rw [← hU]
        clear hU
        refine wp_loop_rounds 4 ?_
        rw [rounds_succ]
        have f1 := chkM_fine p ps.l x.l m (i + 1)
        go_wp2_with fail
        have hI := IH2.out (i + 1) _ (by omega) (by omega) HB
        rw [show ((i + 1 : Nat) : Int) = (i : Int) + 1 by omega] at hI
        refine hI.mono ?_
        clear hI
        rintro e v ⟨rfl, hbN⟩
        replace hB := hB.below hbN hB.lt
        replace HB := below_step HB hbN
        clear hbN
        generalize hr1 : chkM p ps.l x.l m (i + 1) = r1 at *
        obtain ⟨a1, t1, c1⟩ := r1
        simp only at f1
        have z0 : v.cell? ⟨W.heap.size, 0, none⟩ = some (.int .i64 0) := hB.cell 0
        have z1 : v.frozen? ⟨W.heap.size, 0, none⟩ = false := hB.frozen 0
        refine Exists.elim (⟨_, rfl⟩ : ∃ V, V = v.setCell ⟨W.heap.size, 0, none⟩ (.int .i64 a1)) fun V hV => ?_
        replace hB : Blk V W.heap.size 85 (arr3 a1 0 0) := by rw [hV]; exact hB.set_ 0 _
        replace HB : Below W.heap.size W V := by rw [hV]; exact HB.setCell (Nat.le_refl _) _
        by_cases kc : c1 = 0
        case neg =>
          have HR : Hid (chkM p ps.l x.l (m + 1) i = (0, 0, c1)) := Lib.hid (by rw [HC2.out]; simp [kc])
          have kc' : (c1 == 0) = false := beq_eq_false_iff_ne.2 kc
          go_wp2
          rw [← hV]
          go_ret3
          exact ⟨ret_ppp (by rw [HR.out]) (by rw [HR.out]; rfl) (by rw [HR.out]), below_step HW.out HB⟩
        subst kc
        obtain ⟨p11, p12, p13, p14⟩ := f1 rfl
        clear f1
        go_wp2
        rw [← hV]
        clear hV z0 z1
        rw [rounds_succ]
        have f2 := chkM_fine p ps.l x.l m (t1)
        go_wp2_with fail
        have hI := IH2.out t1 _ (by omega) (by omega) HB
        refine hI.mono ?_
        clear hI
        rintro e v ⟨rfl, hbN⟩
        replace hB := hB.below hbN hB.lt
        replace HB := below_step HB hbN
        clear hbN
        generalize hr2 : chkM p ps.l x.l m (t1) = r2 at *
        obtain ⟨a2, t2, c2⟩ := r2
        simp only at f2
        have z0 : v.cell? ⟨W.heap.size, 1, none⟩ = some (.int .i64 0) := hB.cell 1
        have z1 : v.frozen? ⟨W.heap.size, 1, none⟩ = false := hB.frozen 1
        refine Exists.elim (⟨_, rfl⟩ : ∃ V, V = v.setCell ⟨W.heap.size, 1, none⟩ (.int .i64 a2)) fun V hV => ?_
        replace hB : Blk V W.heap.size 85 (arr3 a1 a2 0) := by rw [hV]; exact hB.set_ 1 _
        replace HB : Below W.heap.size W V := by rw [hV]; exact HB.setCell (Nat.le_refl _) _
        by_cases kc : c2 = 0
        case neg =>
          have HR : Hid (chkM p ps.l x.l (m + 1) i = (0, 0, c2)) := Lib.hid (by rw [HC2.out]; simp [kc])
          have kc' : (c2 == 0) = false := beq_eq_false_iff_ne.2 kc
          go_wp2
          rw [← hV]
          go_ret3
          exact ⟨ret_ppp (by rw [HR.out]) (by rw [HR.out]; rfl) (by rw [HR.out]), below_step HW.out HB⟩
        subst kc
        obtain ⟨p21, p22, p23, p24⟩ := f2 rfl
        clear f2
        go_wp2
        rw [← hV]
        clear hV z0 z1
        rw [rounds_succ]
        have f3 := chkM_fine p ps.l x.l m (t2)
        go_wp2_with fail
        have hI := IH2.out t2 _ (by omega) (by omega) HB
        refine hI.mono ?_
        clear hI
        rintro e v ⟨rfl, hbN⟩
        replace hB := hB.below hbN hB.lt
        replace HB := below_step HB hbN
        clear hbN
        generalize hr3 : chkM p ps.l x.l m (t2) = r3 at *
        obtain ⟨a3, t3, c3⟩ := r3
        simp only at f3
        have z0 : v.cell? ⟨W.heap.size, 2, none⟩ = some (.int .i64 0) := hB.cell 2
        have z1 : v.frozen? ⟨W.heap.size, 2, none⟩ = false := hB.frozen 2
        refine Exists.elim (⟨_, rfl⟩ : ∃ V, V = v.setCell ⟨W.heap.size, 2, none⟩ (.int .i64 a3)) fun V hV => ?_
        replace hB : Blk V W.heap.size 85 (arr3 a1 a2 a3) := by rw [hV]; exact hB.set_ 2 _
        replace HB : Below W.heap.size W V := by rw [hV]; exact HB.setCell (Nat.le_refl _) _
        by_cases kc : c3 = 0
        case neg =>
          have HR : Hid (chkM p ps.l x.l (m + 1) i = (0, 0, c3)) := Lib.hid (by rw [HC2.out]; simp [kc])
          have kc' : (c3 == 0) = false := beq_eq_false_iff_ne.2 kc
          go_wp2
          rw [← hV]
          go_ret3
          exact ⟨ret_ppp (by rw [HR.out]) (by rw [HR.out]; rfl) (by rw [HR.out]), below_step HW.out HB⟩
        subst kc
        obtain ⟨p31, p32, p33, p34⟩ := f3 rfl
        clear f3
        go_wp2
        rw [← hV]
        clear hV z0 z1
        rw [rounds_succ]
        have hq2 := fun w' h => hq w' (below_step HB h)
        have ha : ∀ w', Below V.heap.size V w' → w'.cell? ⟨W.heap.size, 0, none⟩ = some (.int .i64 a1) ∧ w'.cell? ⟨W.heap.size, 1, none⟩ = some (.int .i64 a2) ∧ w'.cell? ⟨W.heap.size, 2, none⟩ = some (.int .i64 a3) :=
          fun w' h => ⟨below_cell h (hB.cell 0), below_cell h (hB.cell 1), below_cell h (hB.cell 2)⟩
        have HR : Hid (chkM p ps.l x.l (m + 1) i = ((combM ⟨op, n, wd⟩ a1 a2 a3).1, t3, (combM ⟨op, n, wd⟩ a1 a2 a3).2)) := Lib.hid (by rw [HC2.out]; simp)
        have H0 := Lib.hid (Below.refl V.heap.size V)
        have HV := Lib.hid HB
        clear HB hq
        go_wp2
        go_region_held3 (fun w' => Below V.heap.size V w') (first | exact H0.out | exact below_drew H0.out | (exact below_step (by assumption) (by assumption)) | assumption)
          (first | (go_at_call 218; refine (combine_any op n wd a1 a2 a3 _ o1 o2 (by omega) (by omega)).mono ?_; rintro e w1 ⟨rfl, hb1⟩))
        have HB5 : Hid (Below V.heap.size V _) := Lib.hid (by assumption)
        go_wp2
        go_ret3
        exact ⟨ret_ppp (by rw [HR.out]) (by rw [HR.out]) (by rw [HR.out]), below_step HW.out (below_step HV.out HB5.out)⟩

set_option maxRecDepth 100000 in
set_option maxHeartbeats 2000000 in
theorem exprCheck_any (p : ProgD) (ps : L FieldD) (x : L NodeD) (w : World) (o : ProgOk w p) (hps : LOk w 2 FieldD.cells ps) (hx : LOk w 3 NodeD.cells x) :
    Calls Tryz.prog 201 #[.slice x.A x.l.length x.c, .agg (scopeCells p ps)] w fun e w' => e = .returned (.tuple #[.int .i64 (exprM p ps.l x.l).1, .int .i64 (exprM p ps.l x.l).2]) ∧ Below w.heap.size w w' := by
  have HO := Lib.hid o
  have HP := Lib.hid hps
  have HX := Lib.hid hx
  have hm := hx.1
  clear o hps hx
  obtain ⟨W, hW, hw, HB, hp⟩ := box1 w (scopeCells p ps) 217
  have HW := Lib.hid hw
  clear hw
  by_cases h1 : 24 < x.l.length
  · have HR := Lib.hid (show exprM p ps.l x.l = (0, 12) by rw [exprM, if_pos h1])
    go_enter Tryz.func201, Tryz.ntmps201
    go_wp2
    go_ret2
    exact ⟨ret_pp HR.out, below1 _ _⟩
  have HR := Lib.hid (show exprM p ps.l x.l = _ by rw [exprM, if_neg h1])
  have hf := chkM_fine p ps.l x.l (x.l.length + 1) 0
  have hle : x.l.length ≤ 24 := by omega
  go_enter Tryz.func201, Tryz.ntmps201
  go_upto_region 1 with fail
  rw [← hW]
  clear hW
  go_wp2_with fail
  refine (chk_any p ps x hle (x.l.length + 1) 0 _ (by omega) (by omega) (HO.out.below (below_step HW.out (by first | exact HB | exact below_alloc HB _ | exact below_alloc (below_alloc HB _) _ | exact below_alloc (below_alloc (below_alloc HB _) _) _))) (HP.out.below (below_step HW.out (by first | exact HB | exact below_alloc HB _ | exact below_alloc (below_alloc HB _) _ | exact below_alloc (below_alloc (below_alloc HB _) _) _)) (Nat.le_refl _)) (HX.out.below (below_step HW.out (by first | exact HB | exact below_alloc HB _ | exact below_alloc (below_alloc HB _) _ | exact below_alloc (below_alloc (below_alloc HB _) _) _)) (Nat.le_refl _))).mono ?_
  rintro e w1 ⟨rfl, hbN⟩
  replace HB := below_step (by first | exact HB | exact below_alloc HB _ | exact below_alloc (below_alloc HB _) _ | exact below_alloc (below_alloc (below_alloc HB _) _) _) hbN
  clear hbN
  generalize chkM p ps.l x.l (x.l.length + 1) 0 = r at *
  obtain ⟨a, t, c⟩ := r
  simp only at HR hf
  by_cases k1 : c = 0
  · subst k1
    obtain ⟨_, f2, _⟩ := hf rfl
    by_cases k2 : t < x.l.length
    · replace HR : Hid (exprM p ps.l x.l = (0, 4)) := Lib.hid (by rw [HR.out]; simp [k2])
      go_wp2
      go_ret2
      exact ⟨ret_pp HR.out, below_step HW.out HB⟩
    · replace HR : Hid (exprM p ps.l x.l = (a, 0)) := Lib.hid (by rw [HR.out]; simp [k2])
      go_wp2
      go_ret2
      exact ⟨ret_pp HR.out, below_step HW.out HB⟩
  · have k1' : (c == 0) = false := beq_eq_false_iff_ne.2 k1
    replace HR : Hid (exprM p ps.l x.l = (0, c)) := Lib.hid (by rw [HR.out]; simp [k1])
    go_wp2
    go_ret2
    exact ⟨ret_pp HR.out, below_step HW.out HB⟩
end Go.Proofs.YtbfjknidinkafaaGreat

