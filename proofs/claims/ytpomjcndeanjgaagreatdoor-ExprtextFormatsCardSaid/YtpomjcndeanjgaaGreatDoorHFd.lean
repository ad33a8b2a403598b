/- The walk of the reference's check of a subexpression, and of Check. No condition but that program and nodes lie in memory. exprtext's reference: Format on any program, parameters and nodes. No condition but that they lie in memory, the names short. The law ExprtextFormats, walked. No condition but that the case lies in memory and the table of powers of ten is laid. -/
import Derived.Test.YtpomjcndeanjgaaGreatDoorHFc
namespace Go.Proofs.YtpomjcndeanjgaaGreatDoor
open Go.RowKit
theorem ret_i3 {a b c a' b' c' : Int} (h1 : a = a') (h2 : b = b') (h3 : c = c') : Ending.returned (.tuple #[.int .i64 a, .int .i64 b, .int .i64 c]) = .returned (.tuple #[.int .i64 a', .int .i64 b', .int .i64 c']) := by rw [h1, h2, h3]
set_option maxRecDepth 100000 in
set_option maxHeartbeats 16000000 in
theorem rchk_any (p : ProgD) (ps : L FieldD) (x : L NodeD) (hle : x.l.length ≤ 24) : ∀ (m i : Nat) (w : World), x.l.length < i + m → i ≤ x.l.length → ProgOk w p → LOk w 2 FieldD.cells ps → LOk w 3 NodeD.cells x →
    Calls Tryz.prog 39 #[.slice x.A x.l.length x.c, .int .i64 i, .agg (scopeCells p ps)] w fun e w' =>
      ∃ t : Int, e = .returned (.tuple #[.int .i64 (chkM p ps.l x.l m i).1, .int .i64 t, .int .i64 (chkM p ps.l x.l m i).2.2]) ∧ ((chkM p ps.l x.l m i).2.2 = 0 → t = ((chkM p ps.l x.l m i).2.1 : Int)) ∧ Below w.heap.size w w'
  | 0, i, w, h1, h2, _, _, _ => absurd h1 (by omega)
  | m + 1, i, w, h1, h2, o, hps, hx => by
    have IH := Lib.hid (rchk_any p ps x hle m)
    have HO := Lib.hid o
    have HP := Lib.hid hps
    have HX := Lib.hid hx
    have HC := Lib.hid (chkM.eq_2 p ps.l x.l i m)
    obtain ⟨i0, hi, hz0, hz1, hz2⟩ := info_parts (show (Tryz.prog.info? 3).map (fun i => (i.zero, i.size, i.bytes)) = some (some (.int .i64 0), 1, 8) by kernel_rfl)
    clear o hps hx
    obtain ⟨W, hW, hw, HB, hp⟩ := box1 w (scopeCells p ps) 44
    have HW := Lib.hid hw
    clear hw
    by_cases k0 : i < x.l.length
    case neg =>
      have HR : Hid (chkM p ps.l x.l (m + 1) i = (0, 0, 3)) := Lib.hid (by rw [HC.out, List.getElem?_eq_none (by omega)])
      have k0' : (x.l.length : Int) ≤ (i : Int) := by omega
      go_enter Tryz.func39, Tryz.ntmps39
      go_upto_region 1 with fail
      rw [← hW]
      clear hW
      go_wp2
      go_ret3
      exact ⟨_, ret_i3 (by rw [HR.out]) rfl (by rw [HR.out]), (by rw [HR.out]; intro h; cases h), below_step HW.out HB⟩
    case pos =>
      have HC2 := Lib.hid (show chkM p ps.l x.l (m + 1) i = _ by rw [HC.out, List.getElem?_eq_getElem k0])
      simp only at HC2
      obtain ⟨g, of, hA, hq⟩ := NodeD.atA (HX.out.below HW.out (Nat.le_refl _)) k0
      clear HC
      generalize x.l[i] = y at *
      obtain ⟨op, n, wd⟩ := y
      simp only at hq HC2
      simp only [hA]
      have IH2 : Hid (∀ (j : Nat) (w' : World), i < j → j ≤ x.l.length → Below W.heap.size W w' →
          Calls Tryz.prog 39 #[.slice (some ⟨g, of, none⟩) x.l.length x.c, .int .i64 j, .agg (scopeCells p ps)] w' fun e w2 =>
            ∃ t : Int, e = .returned (.tuple #[.int .i64 (chkM p ps.l x.l m j).1, .int .i64 t, .int .i64 (chkM p ps.l x.l m j).2.2]) ∧ ((chkM p ps.l x.l m j).2.2 = 0 → t = ((chkM p ps.l x.l m j).2.1 : Int)) ∧ Below w'.heap.size w' w2) :=
        Lib.hid (by
          intro j w' h3 h4 hb
          have := IH.out j w' (by omega) h4 (HO.out.below (below_step HW.out hb)) (HP.out.below (below_step HW.out hb) (Nat.le_refl _)) (HX.out.below (below_step HW.out hb) (Nat.le_refl _))
          rw [hA] at this
          exact this)
      have hn1 : (i : Int) < (x.l.length : Int) := by omega
      have hn2 : (i : Int) + 1 ≤ (x.l.length : Int) := by omega
      clear IH h1 h2 hA
      have hk := arityM_cases op
      have hp0 := hp _ HB
      have hq0 := hq _ HB
      go_enter Tryz.func39, Tryz.ntmps39
      go_upto_region 1 with fail
      rw [← hW]
      clear hW
      go_wp2_with fail
      refine (rarity_any op _).mono ?_
      rintro e w' ⟨rfl, rfl⟩
      generalize hko : arityM op = ko at *
      rcases hk with rfl | rfl | ⟨rfl, o1, o2⟩ | ⟨rfl, o1, o2⟩ | ⟨rfl, o1, o2⟩
      · have HR : Hid (chkM p ps.l x.l (m + 1) i = (0, 0, 11)) := Lib.hid (by rw [HC2.out]; rfl)
        go_wp2
        go_ret3
        exact ⟨_, ret_i3 (by rw [HR.out]) rfl (by rw [HR.out]), (by rw [HR.out]; intro h; cases h), below_step HW.out HB⟩
      · have HR : Hid (chkM p ps.l x.l (m + 1) i = ((primM p ps.l ⟨op, n, wd⟩).1, i + 1, (primM p ps.l ⟨op, n, wd⟩).2)) := Lib.hid (by rw [HC2.out]; rfl)
        have H0 := Lib.hid HB
        clear HB
        go_wp2
        clear hp0 hq0
        go_region_held3 (fun w' => Below W.heap.size W w') (first | exact H0.out | exact below_drew H0.out | (exact below_step (by assumption) (by assumption)) | assumption)
          (first | (go_at_call 79; refine (rleaf_any p ps op n wd _ (HO.out.below (below_step HW.out (by assumption))) (HP.out.below (below_step HW.out (by assumption)) (Nat.le_refl _))).mono ?_; rintro e w1 ⟨rfl, hb1⟩))
        have HB5 : Hid (Below W.heap.size W _) := Lib.hid (by assumption)
        have HB := HB5.out
        go_wp2
        go_ret3
        exact ⟨_, ret_i3 (by rw [HR.out]) rfl (by rw [HR.out]), (by rw [HR.out]; intro _; simp only; omega), below_step HW.out HB⟩
      · have hopk : 5 ≤ op ∧ op ≤ 8 := by
          unfold arityM at hko
          repeat' split at hko
          all_goals omega
        have HOPK := Lib.hid hopk
        clear hopk o1 o2
        clear hp0 hq0
        have HOw : Hid (W.ownsRow W.heap.size 3 1 (.slice none 0 0) 0 (ints [])) := Lib.hid (World.ownsRow_nil _ _ _ _)
        have hp0 := hp _ HB
        have hq0 := hq _ HB
        go_wp2
        refine wp_loop_rounds 2 ?_
        rw [rounds_succ]
        have f1 := chkM_fine p ps.l x.l m (i + 1)
        go_wp2_with fail
        have hI := IH2.out (i + 1) _ (by omega) (by omega) HB
        rw [show ((i + 1 : Nat) : Int) = (i : Int) + 1 by omega] at hI
        refine hI.mono ?_
        clear hI
        rintro e v1 ⟨z1, rfl, hz1, hbN⟩
        replace HOw := Lib.hid (own_below HOw.out hbN)
        replace HB := below_step HB hbN
        clear hbN hp0 hq0
        generalize hr1 : chkM p ps.l x.l m (i + 1) = r1 at *
        obtain ⟨a1, t1, c1⟩ := r1
        simp only at f1 hz1
        have hp0 := hp _ HB
        have hq0 := hq _ HB
        by_cases kc : c1 = 0
        case neg =>
          have HR : Hid (chkM p ps.l x.l (m + 1) i = (0, 0, c1)) := Lib.hid (by rw [HC2.out]; simp [kc])
          have kc' : (c1 == 0) = false := beq_eq_false_iff_ne.2 kc
          have KC := Lib.hid kc
          clear kc
          go_wp2
          go_ret3
          exact ⟨_, ret_i3 (by rw [HR.out]) rfl (by rw [HR.out]), (by rw [HR.out]; intro h; exact absurd h KC.out), below_step HW.out HB⟩
        subst kc
        obtain ⟨p11, p12, p13, p14⟩ := f1 rfl
        obtain rfl := hz1 rfl
        clear f1 hz1
        have HBH := Lib.hid HB
        have hsz := HB.size
        go_wp2_with (first
          | (at_builtin; refine wpList_append_own _ rfl _ _ 29 rfl W.heap.size 3 i0 _ 1 8 Tryz.underlying29 hi hz0 hz1 hz2 rfl (by decide) _ 0 (ints []) rfl (HOw.out.alloc _) ⟨v1.heap.size, 0, none⟩ 1 1 [.int .i64 a1] rfl rfl ?c1 ?c2 ?c3 ?c4 ?c5 ?_))
        case c1 =>
          intro j v hj
          match j, hj with
          | 0, hj => simp at hj; subst hj; simp [Addr.add]
        case c2 => intro u hu; simp at hu; subst hu; rfl
        case c3 => unfold maxLen; omega
        case c4 => omega
        case c5 => simp; omega
        intro s1 y1 hown2 hgrow _
        have hb2 := below_alloc HBH.out (.cells #[.int .i64 a1] 3)
        have HB2 : Below W.heap.size W y1 := hb2.grown hgrow hb2.size fun j hj => (HOw.out.lt j hj).1
        obtain ⟨A1, q1, rfl⟩ : ∃ A' c', s1 = .slice A' 1 c' := by
          rcases hown2.2 with ⟨hv, h0⟩ | ⟨g', cap, cur, hv, _, _, _⟩
          · omega
          · exact ⟨_, _, hv⟩
        replace HOw := Lib.hid (show y1.ownsRow W.heap.size 3 1 (.slice A1 1 q1) 1 (ints [a1]) from hown2)
        replace HB := HB2
        clear hb2 HB2 HBH hsz hp0 hq0 hown2 hgrow
        have hp0 := hp _ HB
        have hq0 := hq _ HB
        go_wp2
        rw [rounds_succ]
        have HR : Hid (chkM p ps.l x.l (m + 1) i = ((combM ⟨op, n, wd⟩ a1 0 0).1, t1, (combM ⟨op, n, wd⟩ a1 0 0).2)) := Lib.hid (by rw [HC2.out]; simp)
        have HL := Lib.hid (own_lok (l := [a1]) HOw.out (by simp [maxLen]))
        go_wp2_with fail
        refine (roper1_any op n wd a1 A1 q1 _ HOPK.out (by omega) HL.out).mono ?_
        rintro e u ⟨rfl, hbN⟩
        replace HB := below_step HB hbN
        clear hbN hp0 hq0
        go_wp2
        go_ret3
        exact ⟨_, ret_i3 (by rw [HR.out]) rfl (by rw [HR.out]), (by rw [HR.out]; intro _; rfl), below_step HW.out HB⟩
      · have hopk : 9 ≤ op ∧ op ≤ 16 := by
          unfold arityM at hko
          repeat' split at hko
          all_goals omega
        have HOPK := Lib.hid hopk
        clear hopk o1 o2
        clear hp0 hq0
        have HOw : Hid (W.ownsRow W.heap.size 3 1 (.slice none 0 0) 0 (ints [])) := Lib.hid (World.ownsRow_nil _ _ _ _)
        have hp0 := hp _ HB
        have hq0 := hq _ HB
        go_wp2
        refine wp_loop_rounds 3 ?_
        rw [rounds_succ]
        have f1 := chkM_fine p ps.l x.l m (i + 1)
        go_wp2_with fail
        have hI := IH2.out (i + 1) _ (by omega) (by omega) HB
        rw [show ((i + 1 : Nat) : Int) = (i : Int) + 1 by omega] at hI
        refine hI.mono ?_
        clear hI
        rintro e v1 ⟨z1, rfl, hz1, hbN⟩
        replace HOw := Lib.hid (own_below HOw.out hbN)
        replace HB := below_step HB hbN
        clear hbN hp0 hq0
        generalize hr1 : chkM p ps.l x.l m (i + 1) = r1 at *
        obtain ⟨a1, t1, c1⟩ := r1
        simp only at f1 hz1
        have hp0 := hp _ HB
        have hq0 := hq _ HB
        by_cases kc : c1 = 0
        case neg =>
          have HR : Hid (chkM p ps.l x.l (m + 1) i = (0, 0, c1)) := Lib.hid (by rw [HC2.out]; simp [kc])
          have kc' : (c1 == 0) = false := beq_eq_false_iff_ne.2 kc
          have KC := Lib.hid kc
          clear kc
          go_wp2
          go_ret3
          exact ⟨_, ret_i3 (by rw [HR.out]) rfl (by rw [HR.out]), (by rw [HR.out]; intro h; exact absurd h KC.out), below_step HW.out HB⟩
        subst kc
        obtain ⟨p11, p12, p13, p14⟩ := f1 rfl
        obtain rfl := hz1 rfl
        clear f1 hz1
        have HBH := Lib.hid HB
        have hsz := HB.size
        go_wp2_with (first
          | (at_builtin; refine wpList_append_own _ rfl _ _ 29 rfl W.heap.size 3 i0 _ 1 8 Tryz.underlying29 hi hz0 hz1 hz2 rfl (by decide) _ 0 (ints []) rfl (HOw.out.alloc _) ⟨v1.heap.size, 0, none⟩ 1 1 [.int .i64 a1] rfl rfl ?c1 ?c2 ?c3 ?c4 ?c5 ?_))
        case c1 =>
          intro j v hj
          match j, hj with
          | 0, hj => simp at hj; subst hj; simp [Addr.add]
        case c2 => intro u hu; simp at hu; subst hu; rfl
        case c3 => unfold maxLen; omega
        case c4 => omega
        case c5 => simp; omega
        intro s1 y1 hown2 hgrow _
        have hb2 := below_alloc HBH.out (.cells #[.int .i64 a1] 3)
        have HB2 : Below W.heap.size W y1 := hb2.grown hgrow hb2.size fun j hj => (HOw.out.lt j hj).1
        obtain ⟨A1, q1, rfl⟩ : ∃ A' c', s1 = .slice A' 1 c' := by
          rcases hown2.2 with ⟨hv, h0⟩ | ⟨g', cap, cur, hv, _, _, _⟩
          · omega
          · exact ⟨_, _, hv⟩
        replace HOw := Lib.hid (show y1.ownsRow W.heap.size 3 1 (.slice A1 1 q1) 1 (ints [a1]) from hown2)
        replace HB := HB2
        clear hb2 HB2 HBH hsz hp0 hq0 hown2 hgrow
        have hp0 := hp _ HB
        have hq0 := hq _ HB
        go_wp2
        rw [rounds_succ]
        have f2 := chkM_fine p ps.l x.l m t1
        go_wp2_with fail
        have hI := IH2.out t1 _ (by omega) (by omega) HB
        refine hI.mono ?_
        clear hI
        rintro e v2 ⟨z2, rfl, hz2, hbN⟩
        replace HOw := Lib.hid (own_below HOw.out hbN)
        replace HB := below_step HB hbN
        clear hbN hp0 hq0
        generalize hr2 : chkM p ps.l x.l m t1 = r2 at *
        obtain ⟨a2, t2, c2⟩ := r2
        simp only at f2 hz2
        have hp0 := hp _ HB
        have hq0 := hq _ HB
        by_cases kc : c2 = 0
        case neg =>
          have HR : Hid (chkM p ps.l x.l (m + 1) i = (0, 0, c2)) := Lib.hid (by rw [HC2.out]; simp [kc])
          have kc' : (c2 == 0) = false := beq_eq_false_iff_ne.2 kc
          have KC := Lib.hid kc
          clear kc
          go_wp2
          go_ret3
          exact ⟨_, ret_i3 (by rw [HR.out]) rfl (by rw [HR.out]), (by rw [HR.out]; intro h; exact absurd h KC.out), below_step HW.out HB⟩
        subst kc
        obtain ⟨p21, p22, p23, p24⟩ := f2 rfl
        obtain rfl := hz2 rfl
        clear f2 hz2
        have HBH := Lib.hid HB
        have hsz := HB.size
        go_wp2_with (first
          | (at_builtin; refine wpList_append_own _ rfl _ _ 29 rfl W.heap.size 3 i0 _ 1 8 Tryz.underlying29 hi hz0 hz1 hz2 rfl (by decide) _ 1 (ints [a1]) rfl (HOw.out.alloc _) ⟨v2.heap.size, 0, none⟩ 1 1 [.int .i64 a2] rfl rfl ?c1 ?c2 ?c3 ?c4 ?c5 ?_))
        case c1 =>
          intro j v hj
          match j, hj with
          | 0, hj => simp at hj; subst hj; simp [Addr.add]
        case c2 => intro u hu; simp at hu; subst hu; rfl
        case c3 => unfold maxLen; omega
        case c4 => omega
        case c5 => simp; omega
        intro s2 y2 hown2 hgrow _
        have hb2 := below_alloc HBH.out (.cells #[.int .i64 a2] 3)
        have HB2 : Below W.heap.size W y2 := hb2.grown hgrow hb2.size fun j hj => (HOw.out.lt j hj).1
        obtain ⟨A2, q2, rfl⟩ : ∃ A' c', s2 = .slice A' 2 c' := by
          rcases hown2.2 with ⟨hv, h0⟩ | ⟨g', cap, cur, hv, _, _, _⟩
          · omega
          · exact ⟨_, _, hv⟩
        replace HOw := Lib.hid (show y2.ownsRow W.heap.size 3 1 (.slice A2 2 q2) 2 (ints [a1, a2]) from hown2)
        replace HB := HB2
        clear hb2 HB2 HBH hsz hp0 hq0 hown2 hgrow
        have hp0 := hp _ HB
        have hq0 := hq _ HB
        go_wp2
        rw [rounds_succ]
        have HR : Hid (chkM p ps.l x.l (m + 1) i = ((combM ⟨op, n, wd⟩ a1 a2 0).1, t2, (combM ⟨op, n, wd⟩ a1 a2 0).2)) := Lib.hid (by rw [HC2.out]; simp)
        have HL := Lib.hid (own_lok (l := [a1, a2]) HOw.out (by simp [maxLen]))
        go_wp2_with fail
        refine (roper2_any op n wd a1 a2 A2 q2 _ HOPK.out (by omega) (by omega) HL.out).mono ?_
        rintro e u ⟨rfl, hbN⟩
        replace HB := below_step HB hbN
        clear hbN hp0 hq0
        go_wp2
        go_ret3
        exact ⟨_, ret_i3 (by rw [HR.out]) rfl (by rw [HR.out]), (by rw [HR.out]; intro _; rfl), below_step HW.out HB⟩
      · have hopk : op = 17 := by
          unfold arityM at hko
          repeat' split at hko
          all_goals omega
        have HOPK := Lib.hid hopk
        clear hopk o1 o2
        clear hp0 hq0
        have HOw : Hid (W.ownsRow W.heap.size 3 1 (.slice none 0 0) 0 (ints [])) := Lib.hid (World.ownsRow_nil _ _ _ _)
        have hp0 := hp _ HB
        have hq0 := hq _ HB
        go_wp2
        refine wp_loop_rounds 4 ?_
        rw [rounds_succ]
        have f1 := chkM_fine p ps.l x.l m (i + 1)
        go_wp2_with fail
        have hI := IH2.out (i + 1) _ (by omega) (by omega) HB
        rw [show ((i + 1 : Nat) : Int) = (i : Int) + 1 by omega] at hI
        refine hI.mono ?_
        clear hI
        rintro e v1 ⟨z1, rfl, hz1, hbN⟩
        replace HOw := Lib.hid (own_below HOw.out hbN)
        replace HB := below_step HB hbN
        clear hbN hp0 hq0
        generalize hr1 : chkM p ps.l x.l m (i + 1) = r1 at *
        obtain ⟨a1, t1, c1⟩ := r1
        simp only at f1 hz1
        have hp0 := hp _ HB
        have hq0 := hq _ HB
        by_cases kc : c1 = 0
        case neg =>
          have HR : Hid (chkM p ps.l x.l (m + 1) i = (0, 0, c1)) := Lib.hid (by rw [HC2.out]; simp [kc])
          have kc' : (c1 == 0) = false := beq_eq_false_iff_ne.2 kc
          have KC := Lib.hid kc
          clear kc
          go_wp2
          go_ret3
          exact ⟨_, ret_i3 (by rw [HR.out]) rfl (by rw [HR.out]), (by rw [HR.out]; intro h; exact absurd h KC.out), below_step HW.out HB⟩
        subst kc
        obtain ⟨p11, p12, p13, p14⟩ := f1 rfl
        obtain rfl := hz1 rfl
        clear f1 hz1
        have HBH := Lib.hid HB
        have hsz := HB.size
        go_wp2_with (first
          | (at_builtin; refine wpList_append_own _ rfl _ _ 29 rfl W.heap.size 3 i0 _ 1 8 Tryz.underlying29 hi hz0 hz1 hz2 rfl (by decide) _ 0 (ints []) rfl (HOw.out.alloc _) ⟨v1.heap.size, 0, none⟩ 1 1 [.int .i64 a1] rfl rfl ?c1 ?c2 ?c3 ?c4 ?c5 ?_))
        case c1 =>
          intro j v hj
          match j, hj with
          | 0, hj => simp at hj; subst hj; simp [Addr.add]
        case c2 => intro u hu; simp at hu; subst hu; rfl
        case c3 => unfold maxLen; omega
        case c4 => omega
        case c5 => simp; omega
        intro s1 y1 hown2 hgrow _
        have hb2 := below_alloc HBH.out (.cells #[.int .i64 a1] 3)
        have HB2 : Below W.heap.size W y1 := hb2.grown hgrow hb2.size fun j hj => (HOw.out.lt j hj).1
        obtain ⟨A1, q1, rfl⟩ : ∃ A' c', s1 = .slice A' 1 c' := by
          rcases hown2.2 with ⟨hv, h0⟩ | ⟨g', cap, cur, hv, _, _, _⟩
          · omega
          · exact ⟨_, _, hv⟩
        replace HOw := Lib.hid (show y1.ownsRow W.heap.size 3 1 (.slice A1 1 q1) 1 (ints [a1]) from hown2)
        replace HB := HB2
        clear hb2 HB2 HBH hsz hp0 hq0 hown2 hgrow
        have hp0 := hp _ HB
        have hq0 := hq _ HB
        go_wp2
        rw [rounds_succ]
        have f2 := chkM_fine p ps.l x.l m t1
        go_wp2_with fail
        have hI := IH2.out t1 _ (by omega) (by omega) HB
        refine hI.mono ?_
        clear hI
        rintro e v2 ⟨z2, rfl, hz2, hbN⟩
        replace HOw := Lib.hid (own_below HOw.out hbN)
        replace HB := below_step HB hbN
        clear hbN hp0 hq0
        generalize hr2 : chkM p ps.l x.l m t1 = r2 at *
        obtain ⟨a2, t2, c2⟩ := r2
        simp only at f2 hz2
        have hp0 := hp _ HB
        have hq0 := hq _ HB
        by_cases kc : c2 = 0
        case neg =>
          have HR : Hid (chkM p ps.l x.l (m + 1) i = (0, 0, c2)) := Lib.hid (by rw [HC2.out]; simp [kc])
          have kc' : (c2 == 0) = false := beq_eq_false_iff_ne.2 kc
          have KC := Lib.hid kc
          clear kc
          go_wp2
          go_ret3
          exact ⟨_, ret_i3 (by rw [HR.out]) rfl (by rw [HR.out]), (by rw [HR.out]; intro h; exact absurd h KC.out), below_step HW.out HB⟩
        subst kc
        obtain ⟨p21, p22, p23, p24⟩ := f2 rfl
        obtain rfl := hz2 rfl
        clear f2 hz2
        have HBH := Lib.hid HB
        have hsz := HB.size
        go_wp2_with (first
          | (at_builtin; refine wpList_append_own _ rfl _ _ 29 rfl W.heap.size 3 i0 _ 1 8 Tryz.underlying29 hi hz0 hz1 hz2 rfl (by decide) _ 1 (ints [a1]) rfl (HOw.out.alloc _) ⟨v2.heap.size, 0, none⟩ 1 1 [.int .i64 a2] rfl rfl ?c1 ?c2 ?c3 ?c4 ?c5 ?_))
        case c1 =>
          intro j v hj
          match j, hj with
          | 0, hj => simp at hj; subst hj; simp [Addr.add]
        case c2 => intro u hu; simp at hu; subst hu; rfl
        case c3 => unfold maxLen; omega
        case c4 => omega
        case c5 => simp; omega
        intro s2 y2 hown2 hgrow _
        have hb2 := below_alloc HBH.out (.cells #[.int .i64 a2] 3)
        have HB2 : Below W.heap.size W y2 := hb2.grown hgrow hb2.size fun j hj => (HOw.out.lt j hj).1
        obtain ⟨A2, q2, rfl⟩ : ∃ A' c', s2 = .slice A' 2 c' := by
          rcases hown2.2 with ⟨hv, h0⟩ | ⟨g', cap, cur, hv, _, _, _⟩
          · omega
          · exact ⟨_, _, hv⟩
        replace HOw := Lib.hid (show y2.ownsRow W.heap.size 3 1 (.slice A2 2 q2) 2 (ints [a1, a2]) from hown2)
        replace HB := HB2
        clear hb2 HB2 HBH hsz hp0 hq0 hown2 hgrow
        have hp0 := hp _ HB
        have hq0 := hq _ HB
        go_wp2
        rw [rounds_succ]
        have f3 := chkM_fine p ps.l x.l m t2
        go_wp2_with fail
        have hI := IH2.out t2 _ (by omega) (by omega) HB
        refine hI.mono ?_
        clear hI
        rintro e v3 ⟨z3, rfl, hz3, hbN⟩
        replace HOw := Lib.hid (own_below HOw.out hbN)
        replace HB := below_step HB hbN
        clear hbN hp0 hq0
        generalize hr3 : chkM p ps.l x.l m t2 = r3 at *
        obtain ⟨a3, t3, c3⟩ := r3
        simp only at f3 hz3
        have hp0 := hp _ HB
        have hq0 := hq _ HB
        by_cases kc : c3 = 0
        case neg =>
          have HR : Hid (chkM p ps.l x.l (m + 1) i = (0, 0, c3)) := Lib.hid (by rw [HC2.out]; simp [kc])
          have kc' : (c3 == 0) = false := beq_eq_false_iff_ne.2 kc
          have KC := Lib.hid kc
          clear kc
          go_wp2
          go_ret3
          exact ⟨_, ret_i3 (by rw [HR.out]) rfl (by rw [HR.out]), (by rw [HR.out]; intro h; exact absurd h KC.out), below_step HW.out HB⟩
        subst kc
        obtain ⟨p31, p32, p33, p34⟩ := f3 rfl
        obtain rfl := hz3 rfl
        clear f3 hz3
        have HBH := Lib.hid HB
        have hsz := HB.size
        go_wp2_with (first
          | (at_builtin; refine wpList_append_own _ rfl _ _ 29 rfl W.heap.size 3 i0 _ 1 8 Tryz.underlying29 hi hz0 hz1 hz2 rfl (by decide) _ 2 (ints [a1, a2]) rfl (HOw.out.alloc _) ⟨v3.heap.size, 0, none⟩ 1 1 [.int .i64 a3] rfl rfl ?c1 ?c2 ?c3 ?c4 ?c5 ?_))
        case c1 =>
          intro j v hj
          match j, hj with
          | 0, hj => simp at hj; subst hj; simp [Addr.add]
        case c2 => intro u hu; simp at hu; subst hu; rfl
        case c3 => unfold maxLen; omega
        case c4 => omega
        case c5 => simp; omega
        intro s3 y3 hown2 hgrow _
        have hb2 := below_alloc HBH.out (.cells #[.int .i64 a3] 3)
        have HB2 : Below W.heap.size W y3 := hb2.grown hgrow hb2.size fun j hj => (HOw.out.lt j hj).1
        obtain ⟨A3, q3, rfl⟩ : ∃ A' c', s3 = .slice A' 3 c' := by
          rcases hown2.2 with ⟨hv, h0⟩ | ⟨g', cap, cur, hv, _, _, _⟩
          · omega
          · exact ⟨_, _, hv⟩
        replace HOw := Lib.hid (show y3.ownsRow W.heap.size 3 1 (.slice A3 3 q3) 3 (ints [a1, a2, a3]) from hown2)
        replace HB := HB2
        clear hb2 HB2 HBH hsz hp0 hq0 hown2 hgrow
        have hp0 := hp _ HB
        have hq0 := hq _ HB
        go_wp2
        rw [rounds_succ]
        have HR : Hid (chkM p ps.l x.l (m + 1) i = ((combM ⟨op, n, wd⟩ a1 a2 a3).1, t3, (combM ⟨op, n, wd⟩ a1 a2 a3).2)) := Lib.hid (by rw [HC2.out]; simp)
        have HL := Lib.hid (own_lok (l := [a1, a2, a3]) HOw.out (by simp [maxLen]))
        go_wp2_with fail
        refine (roper3_any op n wd a1 a2 a3 A3 q3 _ HOPK.out (by omega) (by omega) (by omega) HL.out).mono ?_
        rintro e u ⟨rfl, hbN⟩
        replace HB := below_step HB hbN
        clear hbN hp0 hq0
        go_wp2
        go_ret3
        exact ⟨_, ret_i3 (by rw [HR.out]) rfl (by rw [HR.out]), (by rw [HR.out]; intro _; rfl), below_step HW.out HB⟩
set_option maxRecDepth 100000 in
set_option maxHeartbeats 2000000 in
theorem rexprCheck_any (p : ProgD) (ps : L FieldD) (x : L NodeD) (w : World) (o : ProgOk w p) (hps : LOk w 2 FieldD.cells ps) (hx : LOk w 3 NodeD.cells x) :
    Calls Tryz.prog 21 #[.slice x.A x.l.length x.c, .agg (scopeCells p ps)] w fun e w' => e = .returned (.tuple #[.int .i64 (exprM p ps.l x.l).1, .int .i64 (exprM p ps.l x.l).2]) ∧ Below w.heap.size w w' := by
  have HO := Lib.hid o
  have HP := Lib.hid hps
  have HX := Lib.hid hx
  have hm := hx.1
  clear o hps hx
  obtain ⟨W, hW, hw, HB, hp⟩ := box1 w (scopeCells p ps) 44
  have HW := Lib.hid hw
  clear hw
  by_cases h1 : 24 < x.l.length
  · have HR := Lib.hid (show exprM p ps.l x.l = (0, 12) by rw [exprM, if_pos h1])
    go_enter Tryz.func21, Tryz.ntmps21
    go_wp2
    go_ret2
    exact ⟨ret_pp HR.out, below1 _ _⟩
  have HR := Lib.hid (show exprM p ps.l x.l = _ by rw [exprM, if_neg h1])
  have hf := chkM_fine p ps.l x.l (x.l.length + 1) 0
  have hle : x.l.length ≤ 24 := by omega
  go_enter Tryz.func21, Tryz.ntmps21
  go_upto_region 1 with fail
  rw [← hW]
  clear hW
  go_wp2_with fail
  refine (rchk_any p ps x hle (x.l.length + 1) 0 _ (by omega) (by omega) (HO.out.below (below_step HW.out (by first | exact HB | exact below_alloc HB _ | exact below_alloc (below_alloc HB _) _ | exact below_alloc (below_alloc (below_alloc HB _) _) _))) (HP.out.below (below_step HW.out (by first | exact HB | exact below_alloc HB _ | exact below_alloc (below_alloc HB _) _ | exact below_alloc (below_alloc (below_alloc HB _) _) _)) (Nat.le_refl _)) (HX.out.below (below_step HW.out (by first | exact HB | exact below_alloc HB _ | exact below_alloc (below_alloc HB _) _ | exact below_alloc (below_alloc (below_alloc HB _) _) _)) (Nat.le_refl _))).mono ?_
  rintro e w1 ⟨z, rfl, hz, hbN⟩
  replace HB := below_step HB hbN
  clear hbN
  generalize chkM p ps.l x.l (x.l.length + 1) 0 = r at *
  obtain ⟨a, t, c⟩ := r
  simp only at HR hf hz
  by_cases k1 : c = 0
  · subst k1
    obtain ⟨_, f2, _⟩ := hf rfl
    obtain rfl := hz rfl
    clear hz hf
    by_cases k2 : t < x.l.length
    · replace HR : Hid (exprM p ps.l x.l = (0, 4)) := Lib.hid (by rw [HR.out]; simp [k2])
      go_wp2
      go_ret2
      exact ⟨ret_pp HR.out, below_step HW.out HB⟩
    · replace HR : Hid (exprM p ps.l x.l = (a, 0)) := Lib.hid (by rw [HR.out]; simp [k2])
      go_wp2
      go_ret2
      exact ⟨ret_pp HR.out, below_step HW.out HB⟩
  · have k1' : (c == 0) = false := beq_eq_false_iff_ne.2 k1
    replace HR : Hid (exprM p ps.l x.l = (0, c)) := Lib.hid (by rw [HR.out]; simp [k1])
    clear hz hf k1
    go_wp2
    go_ret2
    exact ⟨ret_pp HR.out, below_step HW.out HB⟩
end Go.Proofs.YtpomjcndeanjgaaGreatDoor
namespace Go.Proofs.YtpomjcndeanjgaaGreatDoor
open Go.RowKit
set_option maxRecDepth 100000 in
set_option maxHeartbeats 4000000 in
theorem rformat_any (p : ProgD) (ps : L FieldD) (x : L NodeD) (w : World) (o : ProgOk w p) (hps : LOk w 2 FieldD.cells ps) (hx : LOk w 3 NodeD.cells x) (ht : Tab w) (nm : Names p ps.l) :
    Calls Tryz.prog 9 #[.slice x.A x.l.length x.c, .agg (scopeCells p ps)] w fun e w' => e = .returned (.tuple #[.string (fmtM p ps.l x.l).1, .int .i64 (fmtM p ps.l x.l).2]) ∧ Below w.heap.size w w' := by
  have HE : Hid (WEnv w x p ps) := Lib.hid ⟨ht, hx, o, hps, nm⟩
  clear o hps hx ht nm
  obtain ⟨W, hW, hw, HB, hp⟩ := box1 w (scopeCells p ps) 44
  have HW := Lib.hid hw
  clear hw
  have HR : Hid (fmtM p ps.l x.l = _) := Lib.hid (by rw [fmtM])
  generalize fmtM p ps.l x.l = R at *
  go_enter Tryz.func9, Tryz.ntmps9
  go_upto_region 1 with fail
  rw [← hW]
  clear hW
  go_wp2_with fail
  refine (rexprCheck_any p ps x _ (HE.out.prog.below (below_step HW.out (by first | exact HB | exact below_alloc HB _ | exact below_alloc (below_alloc HB _) _ | exact below_alloc (below_alloc (below_alloc HB _) _) _))) (HE.out.pars.below (below_step HW.out (by first | exact HB | exact below_alloc HB _ | exact below_alloc (below_alloc HB _) _ | exact below_alloc (below_alloc (below_alloc HB _) _) _)) (Nat.le_refl _)) (HE.out.nodes.below (below_step HW.out (by first | exact HB | exact below_alloc HB _ | exact below_alloc (below_alloc HB _) _ | exact below_alloc (below_alloc (below_alloc HB _) _) _)) (Nat.le_refl _))).mono ?_
  rintro e w1 ⟨rfl, hbN⟩
  replace HB := below_step (by first | exact HB | exact below_alloc HB _ | exact below_alloc (below_alloc HB _) _ | exact below_alloc (below_alloc (below_alloc HB _) _) _) hbN
  clear hbN
  generalize hr : exprM p ps.l x.l = r at *
  obtain ⟨a, c⟩ := r
  simp only at HR
  by_cases k5 : c = 0
  case neg =>
    have k5' : (c != 0) = true := bne_iff_ne.2 k5
    replace HR : Hid (R = (⟨#[]⟩, c)) := Lib.hid (by rw [HR.out]; simp [k5])
    go_wp2
    go_ret2
    exact ⟨ret_se HR.out, below_step HW.out HB⟩
  subst k5
  obtain ⟨htx, hlen⟩ := expr_tx (by rw [hr])
  have HTX : Hid (TxtC w x p ps 0 (txtM p ps.l x.l (x.l.length + 1) 0).1) := Lib.hid (tx_text HE.out hlen htx)
  have HOK : Hid (∀ k (hk : k < x.l.length), NodeOk p ps.l x.l[k]) := Lib.hid (fun k hk => tx_ok htx k hk (Nat.zero_le _) hk)
  replace HR : Hid (R = if badB p ps.l x.l 0 x.l.length = true then (⟨#[]⟩, 6) else ((txtM p ps.l x.l (x.l.length + 1) 0).1, 0)) := Lib.hid (by rw [HR.out]; simp)
  generalize (txtM p ps.l x.l (x.l.length + 1) 0).1 = s at *
  have HX := Lib.hid HE.out.nodes
  clear hr htx
  go_wp2
  go_loopw [8] (fun iv wr => ∃ k : Nat, k ≤ x.l.length ∧ iv = .int .i64 k ∧ Hid (∀ j (hj : j < x.l.length), j < k → resM p ps.l x.l[j] = true) ∧ Below W.heap.size W wr) (fun iv _ => x.l.length - (intOf iv).toNat)
  case atStart => exact ⟨0, Nat.zero_le _, rfl, Lib.hid (fun j _ h => absurd h (Nat.not_lt_zero _)), HB⟩
  case round =>
  obtain ⟨k, hk, rfl, HA, hbw⟩ := hrel
  have HBw := Lib.hid hbw
  have hps := fun u (h : Below wr.heap.size wr u) => hp u (below_step HBw.out h)
  have H0 := Lib.hid (Below.refl wr.heap.size wr)
  clear hp hbw HB
  by_cases hlt : k < x.l.length
  · obtain ⟨g, of, hA, hq⟩ := NodeD.atA HX.out hlt
    have hqs := fun u (h : Below wr.heap.size wr u) => hq u (below_step HW.out (below_step HBw.out h))
    clear hq
    have hlt' : (k : Int) < (x.l.length : Int) := by omega
    have HC : Hid (∀ u, Below w.heap.size w u → Calls Tryz.prog 22 #[.agg #[.int .i64 x.l[k].op, .int .i64 x.l[k].n, .int .i64 x.l[k].w], .agg (scopeCells p ps)] u fun e w' => e = .returned (.bool (resM p ps.l x.l[k])) ∧ Below u.heap.size u w') := Lib.hid (fun u hb => rres_any x p ps x.l[k] w u HE.out hb (HOK.out k hlt))
    have HS : Hid (∀ u, Below wr.heap.size wr u → Below w.heap.size w u) := Lib.hid (fun u h => below_step HW.out (below_step HBw.out h))
    have HQ : Hid (resM p ps.l x.l[k] = true → ∀ j (hj : j < x.l.length), j < k + 1 → resM p ps.l x.l[j] = true) := Lib.hid (fun hw j hj h => by
      rcases Nat.lt_succ_iff_lt_or_eq.1 h with h | h
      · exact HA.out j hj h
      · subst h; exact hw)
    have HF : Hid (resM p ps.l x.l[k] = false → R = (⟨#[]⟩, 6)) := Lib.hid (fun hw => by rw [HR.out, if_pos (bad_iff.2 ⟨k, Nat.zero_le _, hlt, x.l[k], List.getElem?_eq_getElem hlt, hw⟩)])
    generalize x.l[k] = y at *
    obtain ⟨op, n, wd⟩ := y
    simp only at hqs HC
    generalize resM p ps.l ⟨op, n, wd⟩ = b at *
    have HAA := Lib.hid hA
    clear hA HA HR HTX HOK HX HE hlt
    simp only [HAA.out]
    cases b with
    | false =>
      have HR2 := Lib.hid (HF.out rfl)
      clear HQ HF
      go_upto_region 7 with fail
      go_region_held3 (fun w' => Below wr.heap.size wr w') (first | exact H0.out | exact below_drew H0.out | (exact below_step (by assumption) (by assumption)) | assumption)
        (first | (go_at_call 22; refine (HC.out _ (HS.out _ (by assumption))).mono ?_; rintro r w5 ⟨rfl, hb5⟩))
      all_goals
        have HB5 : Hid (Below wr.heap.size wr _) := Lib.hid (by assumption)
        go_wp2
        go_ret2
        exact ⟨ret_se HR2.out, HS.out _ HB5.out⟩
    | true =>
      have HQ2 := Lib.hid (HQ.out rfl)
      clear HQ HF
      go_upto_region 7 with fail
      go_region_held3 (fun w' => Below wr.heap.size wr w') (first | exact H0.out | exact below_drew H0.out | (exact below_step (by assumption) (by assumption)) | assumption)
        (first | (go_at_call 22; refine (HC.out _ (HS.out _ (by assumption))).mono ?_; rintro r w5 ⟨rfl, hb5⟩))
      all_goals
        have HB5 : Hid (Below wr.heap.size wr _) := Lib.hid (by assumption)
        go_wp2
        go_roundw
        case rel => exact ⟨k + 1, by omega, by go_num, HQ2, below_step HBw.out HB5.out⟩
        case measure => simp [intOf]; omega
  · have hk' : k = x.l.length := by omega
    subst hk'
    have HR2 : Hid (R = (s, 0)) := Lib.hid (by
      rw [HR.out, if_neg (fun h => ?_)]
      obtain ⟨j, _, h2, y, h3, h4⟩ := bad_iff.1 h
      rw [List.getElem?_eq_getElem h2] at h3
      injection h3 with h3
      rw [← h3, HA.out j h2 h2] at h4
      cases h4)
    have HT : Hid (Calls Tryz.prog 23 #[.slice x.A x.l.length x.c, .int .i64 0, .agg (scopeCells p ps)] wr fun e w' => e = .returned (.string s) ∧ Below wr.heap.size wr w') := Lib.hid (HTX.out wr (below_step HW.out HBw.out))
    have hp2 := hps wr H0.out
    clear HR HA hlt HOK hps
    go_wp2_with fail
    refine HT.out.mono ?_
    rintro e w5 ⟨rfl, hb5⟩
    have HB5 := Lib.hid hb5
    clear hb5 hp2 HT
    go_wp2
    go_ret2
    exact ⟨ret_se HR2.out, below_step HW.out (below_step HBw.out HB5.out)⟩
end Go.Proofs.YtpomjcndeanjgaaGreatDoor
namespace Go.Proofs.YtpomjcndeanjgaaGreatDoor
open Go.RowKit
set_option maxRecDepth 100000 in
set_option maxHeartbeats 8000000 in
theorem law_formats (p : ProgD) (ps : L FieldD) (ns : L NodeD) (w : World) (o : ProgOk w p) (hps : LOk w 2 FieldD.cells ps) (hns : LOk w 3 NodeD.cells ns) (ht : Tab w) :
    Calls Tryz.prog 3 #[.agg (c14Cells p ps ns)] w fun e w' => e = .returned (.bool true) ∧ Below w.heap.size w w' := by
  obtain ⟨W, hW, hw, HB, hp⟩ := box1 w (c14Cells p ps ns) 34
  have HW := Lib.hid hw
  have HO := Lib.hid (o.below hw)
  have HPS := Lib.hid (hps.below hw (Nat.le_refl _))
  have HT := Lib.hid (ht.base hw)
  have HSM := Lib.hid (small14_any p ps ns W HO.out HPS.out)
  have HWK := Lib.hid (fun u (h : Below W.heap.size W u) => works14_any u (HT.out.base h))
  have HNS := Lib.hid (hns.below hw (Nat.le_refl _))
  clear hw o hps hns ht
  go_enter Tryz.func3, Tryz.ntmps3
  go_upto_region 1 with fail
  rw [← hW]
  clear hW
  have hp1 := hp W HB
  go_wp2_with fail
  refine HSM.out.mono ?_
  rintro r w1 ⟨⟨b, rfl, hb⟩, hb1⟩
  have H1 := Lib.hid hb1
  have HBN := Lib.hid hb
  clear hb1 hb HSM hp1
  cases b with
  | false =>
    go_wp2_with fail
    refine (HWK.out w1 H1.out).mono ?_
    rintro r w9 ⟨rfl, hb9⟩
    have H9 := Lib.hid (below_step H1.out hb9)
    clear hb9
    go_wp2
    go_ret
    exact ⟨rfl, below_step HW.out H9.out⟩
  | true =>
    have HNM := Lib.hid (HBN.out rfl)
    have HFM : Hid (∀ u, Below W.heap.size W u → Calls Tryz.prog 7 #[.slice ns.A ns.l.length ns.c, .agg (scopeCells p ps)] u fun e w' => e = .returned (.tuple #[.string (fmtM p ps.l ns.l).1, .int .i64 (fmtM p ps.l ns.l).2]) ∧ Below u.heap.size u w') := Lib.hid (fun u h => eformat_any p ps ns u (HO.out.below h) (HPS.out.below h (Nat.le_refl _)) (HNS.out.below h (Nat.le_refl _)) (HT.out.base h) HNM.out)
    have HRM : Hid (∀ u, Below W.heap.size W u → Calls Tryz.prog 9 #[.slice ns.A ns.l.length ns.c, .agg (scopeCells p ps)] u fun e w' => e = .returned (.tuple #[.string (fmtM p ps.l ns.l).1, .int .i64 (fmtM p ps.l ns.l).2]) ∧ Below u.heap.size u w') := Lib.hid (fun u h => rformat_any p ps ns u (HO.out.below h) (HPS.out.below h (Nat.le_refl _)) (HNS.out.below h (Nat.le_refl _)) (HT.out.base h) HNM.out)
    generalize fmtM p ps.l ns.l = f at *
    obtain ⟨f1, f2⟩ := f
    simp only at HFM HRM
    have HOW := Lib.hid (own14_any p ps ns)
    have HSC := Lib.hid (scope14_any p ps ns)
    have hts : (f1.toList == f1.toList) = true := toList_true rfl
    have H0 := Lib.hid (Below.refl w1.heap.size w1)
    have hpu := fun u (h : Below w1.heap.size w1 u) => hp u (below_step H1.out h)
    go_upto_region 3 with fail
    go_region_held3 (fun w' => Below w1.heap.size w1 w') (first | exact H0.out | exact below_drew H0.out | (exact below_step (by assumption) (by assumption)) | assumption)
      (first
      | (go_at_call 8; refine (HOW.out _).mono ?_; rintro r w4 ⟨rfl, hb4⟩)
      | (go_at_call 7; refine (HFM.out _ (below_step H1.out (by assumption))).mono ?_; rintro r w5 ⟨rfl, hb5⟩))
    have H5 := Lib.hid (below_step H1.out (show Below w1.heap.size w1 w5 by assumption))
    clear hpu H0
    have H0 := Lib.hid (Below.refl w5.heap.size w5)
    have hpu := fun u (h : Below w5.heap.size w5 u) => hp u (below_step H5.out h)
    go_upto_region 4 with fail
    go_region_held3 (fun w' => Below w5.heap.size w5 w') (first | exact H0.out | exact below_drew H0.out | (exact below_step (by assumption) (by assumption)) | assumption)
      (first
      | (go_at_call 10; refine (HSC.out _).mono ?_; rintro r w6 ⟨rfl, hb6⟩)
      | (go_at_call 9; refine (HRM.out _ (below_step H5.out (by assumption))).mono ?_; rintro r w7 ⟨rfl, hb7⟩))
    have H7 := Lib.hid (below_step H5.out (show Below w5.heap.size w5 w7 by assumption))
    clear hpu H0 hp
    go_wp2_with fail
    refine (HWK.out w7 H7.out).mono ?_
    rintro r w9 ⟨rfl, hb9⟩
    have H9 := Lib.hid (below_step H7.out hb9)
    clear hb9
    go_wp2
    go_ret
    exact ⟨rfl, below_step HW.out H9.out⟩
end Go.Proofs.YtpomjcndeanjgaaGreatDoor
