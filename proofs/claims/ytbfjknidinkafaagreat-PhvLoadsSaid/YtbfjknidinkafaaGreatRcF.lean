/- The walk of the reference's check of a subexpression, and of Check. No condition but that program and nodes lie in memory. -/
import Derived.Test.YtbfjknidinkafaaGreatRcE
import Derived.Test.YtbfjknidinkafaaGreatCkX
namespace Go.Proofs.YtbfjknidinkafaaGreat
open Go.RowKit

theorem ret_i3 {a b c a' b' c' : Int} (h1 : a = a') (h2 : b = b') (h3 : c = c') : Ending.returned (.tuple #[.int .i64 a, .int .i64 b, .int .i64 c]) = .returned (.tuple #[.int .i64 a', .int .i64 b', .int .i64 c']) := by rw [h1, h2, h3]
set_option maxRecDepth 100000 in
set_option maxHeartbeats 16000000 in
theorem rchk_any (p : ProgD) (ps : L FieldD) (x : L NodeD) (hle : x.l.length ≤ 24) : ∀ (m i : Nat) (w : World), x.l.length < i + m → i ≤ x.l.length → ProgOk w p → LOk w 2 FieldD.cells ps → LOk w 3 NodeD.cells x →
    Calls Tryz.prog 207 #[.slice x.A x.l.length x.c, .int .i64 i, .agg (scopeCells p ps)] w fun e w' =>
      ∃ t : Int, e = .returned (.tuple #[.int .i64 (chkM p ps.l x.l m i).1, .int .i64 t, .int .i64 (chkM p ps.l x.l m i).2.2]) ∧ ((chkM p ps.l x.l m i).2.2 = 0 → t = ((chkM p ps.l x.l m i).2.1 : Int)) ∧ Below w.heap.size w w'
  | 0, i, w, h1, h2, _, _, _ => absurd h1 (by omega)
  | m + 1, i, w, h1, h2, o, hps, hx => by
    have IH := Lib.hid (rchk_any p ps x hle m)
    have HO := Lib.hid o
    have HP := Lib.hid hps
    have HX := Lib.hid hx
    have HC := Lib.hid (chkM.eq_2 p ps.l x.l i m)
    obtain ⟨i0, hi, hz0, hz1, hz2⟩ := info_parts (show (Tryz.prog.info? 3).map (fun i => (i.zero, i.size, i.bytes)) = some (some (.int .i64 0), 1, 8) by kernel_rfl)
    clear o hps hx
    obtain ⟨W, hW, hw, HB, hp⟩ := box1 w (scopeCells p ps) 196
    have HW := Lib.hid hw
    clear hw
    by_cases k0 : i < x.l.length
    case neg =>
      have HR : Hid (chkM p ps.l x.l (m + 1) i = (0, 0, 3)) := Lib.hid (by rw [HC.out, List.getElem?_eq_none (by omega)])
      have k0' : (x.l.length : Int) ≤ (i : Int) := by omega
      go_enter Tryz.func207, Tryz.ntmps207
      go_upto_region 1 with fail
      rw [← hW]
      clear hW
      go_wp2
      go_ret3
      exact ⟨_, ret_i3 (by rw [HR.out]) rfl (by rw [HR.out]), (by rw [HR.out]; intro h; cases h), below_step HW.out HB⟩
    case pos =>
      have HC2 := Lib.hid (show chkM p ps.l x.l (m + 1) i = _ by rw [HC.out, List.getElem?_eq_getElem k0])
      simp only at HC2
      obtain ⟨g, of, hA, hq⟩ := NodeD.atA (HX.out.below HW.out (Nat.le_refl _)) k0
      clear HC
      generalize x.l[i] = y at *
      obtain ⟨op, n, wd⟩ := y
      simp only at hq HC2
      simp only [hA]
      have IH2 : Hid (∀ (j : Nat) (w' : World), i < j → j ≤ x.l.length → Below W.heap.size W w' →
          Calls Tryz.prog 207 #[.slice (some ⟨g, of, none⟩) x.l.length x.c, .int .i64 j, .agg (scopeCells p ps)] w' fun e w2 =>
            ∃ t : Int, e = .returned (.tuple #[.int .i64 (chkM p ps.l x.l m j).1, .int .i64 t, .int .i64 (chkM p ps.l x.l m j).2.2]) ∧ ((chkM p ps.l x.l m j).2.2 = 0 → t = ((chkM p ps.l x.l m j).2.1 : Int)) ∧ Below w'.heap.size w' w2) :=
        Lib.hid (by
          intro j w' h3 h4 hb
          have := IH.out j w' (by omega) h4 (HO.out.below (below_step HW.out hb)) (HP.out.below (below_step HW.out hb) (Nat.le_refl _)) (HX.out.below (below_step HW.out hb) (Nat.le_refl _))
          rw [hA] at this
          exact this)
      have hn1 : (i : Int) < (x.l.length : Int) := by omega
      have hn2 : (i : Int) + 1 ≤ (x.l.length : Int) := by omega
      clear IH h1 h2 hA
      have hk := arityM_cases op
      have hp0 := hp _ HB
      have hq0 := hq _ HB
      go_enter Tryz.func207, Tryz.ntmps207
      go_upto_region 1 with fail
      rw [← hW]
      clear hW
      go_wp2_with fail
      refine (rarity_any op _).mono ?_
      rintro e w' ⟨rfl, rfl⟩
      generalize hko : arityM op = ko at *
      rcases hk with rfl | rfl | ⟨rfl, o1, o2⟩ | ⟨rfl, o1, o2⟩ | ⟨rfl, o1, o2⟩
      · have HR : Hid (chkM p ps.l x.l (m + 1) i = (0, 0, 11)) := Lib.hid (by rw [HC2.out]; rfl)
        go_wp2
        go_ret3
        exact ⟨_, ret_i3 (by rw [HR.out]) rfl (by rw [HR.out]), (by rw [HR.out]; intro h; cases h), below_step HW.out HB⟩
      · have HR : Hid (chkM p ps.l x.l (m + 1) i = ((primM p ps.l ⟨op, n, wd⟩).1, i + 1, (primM p ps.l ⟨op, n, wd⟩).2)) := Lib.hid (by rw [HC2.out]; rfl)
        have H0 := Lib.hid HB
        clear HB
        go_wp2
        clear hp0 hq0
        go_region_held3 (fun w' => Below W.heap.size W w') (first | exact H0.out | exact below_drew H0.out | (exact below_step (by assumption) (by assumption)) | assumption)
          (first | (go_at_call 214; refine (rleaf_any p ps op n wd _ (HO.out.below (below_step HW.out (by assumption))) (HP.out.below (below_step HW.out (by assumption)) (Nat.le_refl _))).mono ?_; rintro e w1 ⟨rfl, hb1⟩))
        have HB5 : Hid (Below W.heap.size W _) := Lib.hid (by assumption)
        have HB := HB5.out
        go_wp2
        go_ret3
        exact ⟨_, ret_i3 (by rw [HR.out]) rfl (by rw [HR.out]), (by rw [HR.out]; intro _; simp only; omega), below_step HW.out HB⟩
      · have hopk : 5 ≤ op ∧ op ≤ 8 := by
          unfold arityM at hko
          repeat' split at hko
          all_goals omega
        have HOPK := Lib.hid hopk
        clear hopk o1 o2
        clear hp0 hq0
        have HOw : Hid (W.ownsRow W.heap.size 3 1 (.slice none 0 0) 0 (ints [])) := Lib.hid (World.ownsRow_nil _ _ _ _)
        have hp0 := hp _ HB
        have hq0 := hq _ HB
        go_wp2
        refine wp_loop_rounds 2 ?_
        rw [rounds_succ]
        have f1 := chkM_fine p ps.l x.l m (i + 1)
        go_wp2_with fail
        have hI := IH2.out (i + 1) _ (by omega) (by omega) HB
        rw [show ((i + 1 : Nat) : Int) = (i : Int) + 1 by omega] at hI
        refine hI.mono ?_
        clear hI
        rintro e v1 ⟨z1, rfl, hz1, hbN⟩
        replace HOw := Lib.hid (own_below HOw.out hbN)
        replace HB := below_step HB hbN
        clear hbN hp0 hq0
        generalize hr1 : chkM p ps.l x.l m (i + 1) = r1 at *
        obtain ⟨a1, t1, c1⟩ := r1
        simp only at f1 hz1
        have hp0 := hp _ HB
        have hq0 := hq _ HB
        by_cases kc : c1 = 0
        case neg =>
          have HR : Hid (chkM p ps.l x.l (m + 1) i = (0, 0, c1)) := Lib.hid (by rw [HC2.out]; simp [kc])
          have kc' : (c1 == 0) = false := beq_eq_false_iff_ne.2 kc
          have KC := Lib.hid kc
          clear kc
          go_wp2
          go_ret3
          exact ⟨_, ret_i3 (by rw [HR.out]) rfl (by rw [HR.out]), (by rw [HR.out]; intro h; exact absurd h KC.out), below_step HW.out HB⟩
        subst kc
        obtain ⟨p11, p12, p13, p14⟩ := f1 rfl
        obtain rfl := hz1 rfl
        clear f1 hz1
        have HBH := Lib.hid HB
        have hsz := HB.size
        go_wp2_with (first
          | (at_builtin; refine wpList_append_own _ rfl _ _ 29 rfl W.heap.size 3 i0 _ 1 8 Tryz.underlying29 hi hz0 hz1 hz2 rfl (by decide) _ 0 (ints []) rfl (HOw.out.alloc _) ⟨v1.heap.size, 0, none⟩ 1 1 [.int .i64 a1] rfl rfl ?c1 ?c2 ?c3 ?c4 ?c5 ?_))
        case c1 =>
          intro j v hj
          match j, hj with
          | 0, hj => simp at hj; subst hj; simp [Addr.add]
        case c2 => intro u hu; simp at hu; subst hu; rfl
        case c3 => unfold maxLen; omega
        case c4 => omega
        case c5 => simp; omega
        intro s1 y1 hown2 hgrow _
        have hb2 := below_alloc HBH.out (.cells #[.int .i64 a1] 3)
        have HB2 : Below W.heap.size W y1 := hb2.grown hgrow hb2.size fun j hj => (HOw.out.lt j hj).1
        obtain ⟨A1, q1, rfl⟩ : ∃ A' c', s1 = .slice A' 1 c' := by
          rcases hown2.2 with ⟨hv, h0⟩ | ⟨g', cap, cur, hv, _, _, _⟩
          · omega
          · exact ⟨_, _, hv⟩
        replace HOw := Lib.hid (show y1.ownsRow W.heap.size 3 1 (.slice A1 1 q1) 1 (ints [a1]) from hown2)
        replace HB := HB2
        clear hb2 HB2 HBH hsz hp0 hq0 hown2 hgrow
        have hp0 := hp _ HB
        have hq0 := hq _ HB
        go_wp2
        rw [rounds_succ]
        have HR : Hid (chkM p ps.l x.l (m + 1) i = ((combM ⟨op, n, wd⟩ a1 0 0).1, t1, (combM ⟨op, n, wd⟩ a1 0 0).2)) := Lib.hid (by rw [HC2.out]; simp)
        have HL := Lib.hid (own_lok (l := [a1]) HOw.out (by simp [maxLen]))
        go_wp2_with fail
        refine (roper1_any op n wd a1 A1 q1 _ HOPK.out (by omega) HL.out).mono ?_
        rintro e u ⟨rfl, hbN⟩
        replace HB := below_step HB hbN
        clear hbN hp0 hq0
        go_wp2
        go_ret3
        exact ⟨_, ret_i3 (by rw [HR.out]) rfl (by rw [HR.out]), (by rw [HR.out]; intro _; rfl), below_step HW.out HB⟩
      · have hopk : 9 ≤ op ∧ op ≤ 16 := by
          unfold arityM at hko
          repeat' split at hko
          all_goals omega
        have HOPK := Lib.hid hopk
        clear hopk o1 o2
        clear hp0 hq0
        have HOw : Hid (W.ownsRow W.heap.size 3 1 (.slice none 0 0) 0 (ints [])) := Lib.hid (World.ownsRow_nil _ _ _ _)
        have hp0 := hp _ HB
        have hq0 := hq _ HB
        go_wp2
        refine wp_loop_rounds 3 ?_
        rw [rounds_succ]
        have f1 := chkM_fine p ps.l x.l m (i + 1)
        go_wp2_with fail
        have hI := IH2.out (i + 1) _ (by omega) (by omega) HB
        rw [show ((i + 1 : Nat) : Int) = (i : Int) + 1 by omega] at hI
        refine hI.mono ?_
        clear hI
        rintro e v1 ⟨z1, rfl, hz1, hbN⟩
        replace HOw := Lib.hid (own_below HOw.out hbN)
        replace HB := below_step HB hbN
        clear hbN hp0 hq0
        generalize hr1 : chkM p ps.l x.l m (i + 1) = r1 at *
        obtain ⟨a1, t1, c1⟩ := r1
        simp only at f1 hz1
        have hp0 := hp _ HB
        have hq0 := hq _ HB
        by_cases kc : c1 = 0
        case neg =>
          have HR : Hid (chkM p ps.l x.l (m + 1) i = (0, 0, c1)) := Lib.hid (by rw [HC2.out]; simp [kc])
          have kc' : (c1 == 0) = false := beq_eq_false_iff_ne.2 kc
          have KC := Lib.hid kc
          clear kc
          go_wp2
          go_ret3
          exact ⟨_, ret_i3 (by rw [HR.out]) rfl (by rw [HR.out]), (by rw [HR.out]; intro h; exact absurd h KC.out), below_step HW.out HB⟩
        subst kc
        obtain ⟨p11, p12, p13, p14⟩ := f1 rfl
        obtain rfl := hz1 rfl
        clear f1 hz1
        have HBH := Lib.hid HB
        have hsz := HB.size
        go_wp2_with (first
          | (at_builtin; refine wpList_append_own _ rfl _ _ 29 rfl W.heap.size 3 i0 _ 1 8 Tryz.underlying29 hi hz0 hz1 hz2 rfl (by decide) _ 0 (ints []) rfl (HOw.out.alloc _) ⟨v1.heap.size, 0, none⟩ 1 1 [.int .i64 a1] rfl rfl ?c1 ?c2 ?c3 ?c4 ?c5 ?_))
        case c1 =>
          intro j v hj
          match j, hj with
          | 0, hj => simp at hj; subst hj; simp [Addr.add]
        case c2 => intro u hu; simp at hu; subst hu; rfl
        case c3 => unfold maxLen; omega
        case c4 => omega
        case c5 => simp; omega
        intro s1 y1 hown2 hgrow _
        have hb2 := below_alloc HBH.out (.cells #[.int .i64 a1] 3)
        have HB2 : Below W.heap.size W y1 := hb2.grown hgrow hb2.size fun j hj => (HOw.out.lt j hj).1
        obtain ⟨A1, q1, rfl⟩ : ∃ A' c', s1 = .slice A' 1 c' := by
          rcases hown2.2 with ⟨hv, h0⟩ | ⟨g', cap, cur, hv, _, _, _⟩
          · omega
          · exact ⟨_, _, hv⟩
        replace HOw := Lib.hid (show y1.ownsRow W.heap.size 3 1 (.slice A1 1 q1) 1 (ints [a1]) from hown2)
        replace HB := HB2
        clear hb2 HB2 HBH hsz hp0 hq0 hown2 hgrow
        have hp0 := hp _ HB
        have hq0 := hq _ HB
        go_wp2
        rw [rounds_succ]
        have f2 := chkM_fine p ps.l x.l m t1
        go_wp2_with fail
        have hI := IH2.out t1 _ (by omega) (by omega) HB
        refine hI.mono ?_
        clear hI
        rintro e v2 ⟨z2, rfl, hz2, hbN⟩
        replace HOw := Lib.hid (own_below HOw.out hbN)
        replace HB := below_step HB hbN
        clear hbN hp0 hq0
        generalize hr2 : chkM p ps.l x.l m t1 = r2 at *
        obtain ⟨a2, t2, c2⟩ := r2
        simp only at f2 hz2
        have hp0 := hp _ HB
        have hq0 := hq _ HB
        by_cases kc : c2 = 0
        case neg =>
          have HR : Hid (chkM p ps.l x.l (m + 1) i = (0, 0, c2)) := Lib.hid (by rw [HC2.out]; simp [kc])
          have kc' : (c2 == 0) = false := beq_eq_false_iff_ne.2 kc
          have KC := Lib.hid kc
          clear kc
          go_wp2
          go_ret3
          exact ⟨_, ret_i3 (by rw [HR.out]) rfl (by rw [HR.out]), (by rw [HR.out]; intro h; exact absurd h KC.out), below_step HW.out HB⟩
        subst kc
        obtain ⟨p21, p22, p23, p24⟩ := f2 rfl
        obtain rfl := hz2 rfl
        clear f2 hz2
        have HBH := Lib.hid HB
        have hsz := HB.size
        go_wp2_with (first
          | (at_builtin; refine wpList_append_own _ rfl _ _ 29 rfl W.heap.size 3 i0 _ 1 8 Tryz.underlying29 hi hz0 hz1 hz2 rfl (by decide) _ 1 (ints [a1]) rfl (HOw.out.alloc _) ⟨v2.heap.size, 0, none⟩ 1 1 [.int .i64 a2] rfl rfl ?c1 ?c2 ?c3 ?c4 ?c5 ?_))
        case c1 =>
          intro j v hj
          match j, hj with
          | 0, hj => simp at hj; subst hj; simp [Addr.add]
        case c2 => intro u hu; simp at hu; subst hu; rfl
        case c3 => unfold maxLen; omega
        case c4 => omega
        case c5 => simp; omega
        intro s2 y2 hown2 hgrow _
        have hb2 := below_alloc HBH.out (.cells #[.int .i64 a2] 3)
        have HB2 : Below W.heap.size W y2 := hb2.grown hgrow hb2.size fun j hj => (HOw.out.lt j hj).1
        obtain ⟨A2, q2, rfl⟩ : ∃ A' c', s2 = .slice A' 2 c' := by
          rcases hown2.2 with ⟨hv, h0⟩ | ⟨g', cap, cur, hv, _, _, _⟩
          · omega
          · exact ⟨_, _, hv⟩
        replace HOw := Lib.hid (show y2.ownsRow W.heap.size 3 1 (.slice A2 2 q2) 2 (ints [a1, a2]) from hown2)
        replace HB := HB2
        clear hb2 HB2 HBH hsz hp0 hq0 hown2 hgrow
        have hp0 := hp _ HB
        have hq0 := hq _ HB
        go_wp2
        rw [rounds_succ]
        have HR : Hid (chkM p ps.l x.l (m + 1) i = ((combM ⟨op, n, wd⟩ a1 a2 0).1, t2, (combM ⟨op, n, wd⟩ a1 a2 0).2)) := Lib.hid (by rw [HC2.out]; simp)
        have HL := Lib.hid (own_lok (l := [a1, a2]) HOw.out (by simp [maxLen]))
        go_wp2_with fail
        refine (roper2_any op n wd a1 a2 A2 q2 _ HOPK.out (by omega) (by omega) HL.out).mono ?_
        rintro e u ⟨rfl, hbN⟩
        replace HB := below_step HB hbN
        clear hbN hp0 hq0
        go_wp2
        go_ret3
        exact ⟨_, ret_i3 (by rw [HR.out]) rfl (by rw [HR.out]), (by rw [HR.out]; intro _; rfl), below_step HW.out HB⟩
      · have hopk : op = 17 := by
          unfold arityM at hko
          repeat' split at hko
          all_goals omega
        have HOPK := Lib.hid hopk
        clear hopk o1 o2
        clear hp0 hq0
        have HOw : Hid (W.ownsRow W.heap.size 3 1 (.slice none 0 0) 0 (ints [])) := Lib.hid (World.ownsRow_nil _ _ _ _)
        have hp0 := hp _ HB
        have hq0 := hq _ HB
        go_wp2
        refine wp_loop_rounds 4 ?_
        rw [rounds_succ]
        have f1 := chkM_fine p ps.l x.l m (i + 1)
        go_wp2_with fail
        have hI := IH2.out (i + 1) _ (by omega) (by omega) HB
        rw [show ((i + 1 : Nat) : Int) = (i : Int) + 1 by omega] at hI
        refine hI.mono ?_
        clear hI
        rintro e v1 ⟨z1, rfl, hz1, hbN⟩
        replace HOw := Lib.hid (own_below HOw.out hbN)
        replace HB := below_step HB hbN
        clear hbN hp0 hq0
        generalize hr1 : chkM p ps.l x.l m (i + 1) = r1 at *
        obtain ⟨a1, t1, c1⟩ := r1
        simp only at f1 hz1
        have hp0 := hp _ HB
        have hq0 := hq _ HB
        by_cases kc : c1 = 0
        case neg =>
          have HR : Hid (chkM p ps.l x.l (m + 1) i = (0, 0, c1)) := Lib.hid (by rw [HC2.out]; simp [kc])
          have kc' : (c1 == 0) = false := beq_eq_false_iff_ne.2 kc
          have KC := Lib.hid kc
          clear kc
          go_wp2
          go_ret3
          exact ⟨_, ret_i3 (by rw [HR.out]) rfl (by rw [HR.out]), (by rw [HR.out]; intro h; exact absurd h KC.out), below_step HW.out HB⟩
        subst kc
        obtain ⟨p11, p12, p13, p14⟩ := f1 rfl
        obtain rfl := hz1 rfl
        clear f1 hz1
        have HBH := Lib.hid HB
        have hsz := HB.size
        go_wp2_with (first
          | (at_builtin; refine wpList_append_own _ rfl _ _ 29 rfl W.heap.size 3 i0 _ 1 8 Tryz.underlying29 hi hz0 hz1 hz2 rfl (by decide) _ 0 (ints []) rfl (HOw.out.alloc _) ⟨v1.heap.size, 0, none⟩ 1 1 [.int .i64 a1] rfl rfl ?c1 ?c2 ?c3 ?c4 ?c5 ?_))
        case c1 =>
          intro j v hj
          match j, hj with
          | 0, hj => simp at hj; subst hj; simp [Addr.add]
        case c2 => intro u hu; simp at hu; subst hu; rfl
        case c3 => unfold maxLen; omega
        case c4 => omega
        case c5 => simp; omega
        intro s1 y1 hown2 hgrow _
        have hb2 := below_alloc HBH.out (.cells #[.int .i64 a1] 3)
        have HB2 : Below W.heap.size W y1 := hb2.grown hgrow hb2.size fun j hj => (HOw.out.lt j hj).1
        obtain ⟨A1, q1, rfl⟩ : ∃ A' c', s1 = .slice A' 1 c' := by
          rcases hown2.2 with ⟨hv, h0⟩ | ⟨g', cap, cur, hv, _, _, _⟩
          · omega
          · exact ⟨_, _, hv⟩
        replace HOw := Lib.hid (show y1.ownsRow W.heap.size 3 1 (.slice A1 1 q1) 1 (ints [a1]) from hown2)
        replace HB := HB2
        clear hb2 HB2 HBH hsz hp0 hq0 hown2 hgrow
        have hp0 := hp _ HB
        have hq0 := hq _ HB
        go_wp2
        rw [rounds_succ]
        have f2 := chkM_fine p ps.l x.l m t1
        go_wp2_with fail
        have hI := IH2.out t1 _ (by omega) (by omega) HB
        refine hI.mono ?_
        clear hI
        rintro e v2 ⟨z2, rfl, hz2, hbN⟩
        replace HOw := Lib.hid (own_below HOw.out hbN)
        replace HB := below_step HB hbN
        clear hbN hp0 hq0
        generalize hr2 : chkM p ps.l x.l m t1 = r2 at *
        obtain ⟨a2, t2, c2⟩ := r2
        simp only at f2 hz2
        have hp0 := hp _ HB
        have hq0 := hq _ HB
        by_cases kc : c2 = 0
        case neg =>
          have HR : Hid (chkM p ps.l x.l (m + 1) i = (0, 0, c2)) := Lib.hid (by rw [HC2.out]; simp [kc])
          have kc' : (c2 == 0) = false := beq_eq_false_iff_ne.2 kc
          have KC := Lib.hid kc
          clear kc
          go_wp2
          go_ret3
          exact ⟨_, ret_i3 (by rw [HR.out]) rfl (by rw [HR.out]), (by rw [HR.out]; intro h; exact absurd h KC.out), below_step HW.out HB⟩
        subst kc
        obtain ⟨p21, p22, p23, p24⟩ := f2 rfl
        obtain rfl := hz2 rfl
        clear f2 hz2
        have HBH := Lib.hid HB
        have hsz := HB.size
        go_wp2_with (first
          | (at_builtin; refine wpList_append_own _ rfl _ _ 29 rfl W.heap.size 3 i0 _ 1 8 Tryz.underlying29 hi hz0 hz1 hz2 rfl (by decide) _ 1 (ints [a1]) rfl (HOw.out.alloc _) ⟨v2.heap.size, 0, none⟩ 1 1 [.int .i64 a2] rfl rfl ?c1 ?c2 ?c3 ?c4 ?c5 ?_))
        case c1 =>
          intro j v hj
          match j, hj with
          | 0, hj => simp at hj; subst hj; simp [Addr.add]
        case c2 => intro u hu; simp at hu; subst hu; rfl
        case c3 => unfold maxLen; omega
        case c4 => omega
        case c5 => simp; omega
        intro s2 y2 hown2 hgrow _
        have hb2 := below_alloc HBH.out (.cells #[.int .i64 a2] 3)
        have HB2 : Below W.heap.size W y2 := hb2.grown hgrow hb2.size fun j hj => (HOw.out.lt j hj).1
        obtain ⟨A2, q2, rfl⟩ : ∃ A' c', s2 = .slice A' 2 c' := by
          rcases hown2.2 with ⟨hv, h0⟩ | ⟨g', cap, cur, hv, _, _, _⟩
          · omega
          · exact ⟨_, _, hv⟩
        replace HOw := Lib.hid (show y2.ownsRow W.heap.size 3 1 (.slice A2 2 q2) 2 (ints [a1, a2]) from hown2)
        replace HB := HB2
        clear hb2 HB2 HBH hsz hp0 hq0 hown2 hgrow
        have hp0 := hp _ HB
        have hq0 := hq _ HB
        go_wp2
        rw [rounds_succ]
        have f3 := chkM_fine p ps.l x.l m t2
        go_wp2_with fail
        have hI := IH2.out t2 _ (by omega) (by omega) HB
        refine hI.mono ?_
        clear hI
        rintro e v3 ⟨z3, rfl, hz3, hbN⟩
        replace HOw := Lib.hid (own_below HOw.out hbN)
        replace HB := below_step HB hbN
        clear hbN hp0 hq0
        generalize hr3 : chkM p ps.l x.l m t2 = r3 at *
        obtain ⟨a3, t3, c3⟩ := r3
        simp only at f3 hz3
        have hp0 := hp _ HB
        have hq0 := hq _ HB
        by_cases kc : c3 = 0
        case neg =>
          have HR : Hid (chkM p ps.l x.l (m + 1) i = (0, 0, c3)) := Lib.hid (by rw [HC2.out]; simp [kc])
          have kc' : (c3 == 0) = false := beq_eq_false_iff_ne.2 kc
          have KC := Lib.hid kc
          clear kc
          go_wp2
          go_ret3
          exact ⟨_, ret_i3 (by rw [HR.out]) rfl (by rw [HR.out]), (by rw [HR.out]; intro h; exact absurd h KC.out), below_step HW.out HB⟩
        subst kc
        obtain ⟨p31, p32, p33, p34⟩ := f3 rfl
        obtain rfl := hz3 rfl
        clear f3 hz3
        have HBH := Lib.hid HB
        have hsz := HB.size
        go_wp2_with (first
          | (at_builtin; refine wpList_append_own _ rfl _ _ 29 rfl W.heap.size 3 i0 _ 1 8 Tryz.underlying29 hi hz0 hz1 hz2 rfl (by decide) _ 2 (ints [a1, a2]) rfl (HOw.out.alloc _) ⟨v3.heap.size, 0, none⟩ 1 1 [.int .i64 a3] rfl rfl ?c1 ?c2 ?c3 ?c4 ?c5 ?_))
        case c1 =>
          intro j v hj
          match j, hj with
          | 0, hj => simp at hj; subst hj; simp [Addr.add]
        case c2 => intro u hu; simp at hu; subst hu; rfl
        case c3 => unfold maxLen; omega
        case c4 => omega
        case c5 => simp; omega
        intro s3 y3 hown2 hgrow _
        have hb2 := below_alloc HBH.out (.cells #[.int .i64 a3] 3)
        have HB2 : Below W.heap.size W y3 := hb2.grown hgrow hb2.size fun j hj => (HOw.out.lt j hj).1
        obtain ⟨A3, q3, rfl⟩ : ∃ A' c', s3 = .slice A' 3 c' := by
          rcases hown2.2 with ⟨hv, h0⟩ | ⟨g', cap, cur, hv, _, _, _⟩
          · omega
          · exact ⟨_, _, hv⟩
        replace HOw := Lib.hid (show y3.ownsRow W.heap.size 3 1 (.slice A3 3 q3) 3 (ints [a1, a2, a3]) from hown2)
        replace HB := HB2
        clear hb2 HB2 HBH hsz hp0 hq0 hown2 hgrow
        have hp0 := hp _ HB
        have hq0 := hq _ HB
        go_wp2
        rw [rounds_succ]
        have HR : Hid (chkM p ps.l x.l (m + 1) i = ((combM ⟨op, n, wd⟩ a1 a2 a3).1, t3, (combM ⟨op, n, wd⟩ a1 a2 a3).2)) := Lib.hid (by rw [HC2.out]; simp)
        have HL := Lib.hid (own_lok (l := [a1, a2, a3]) HOw.out (by simp [maxLen]))
        go_wp2_with fail
        refine (roper3_any op n wd a1 a2 a3 A3 q3 _ HOPK.out (by omega) (by omega) (by omega) HL.out).mono ?_
        rintro e u ⟨rfl, hbN⟩
        replace HB := below_step HB hbN
        clear hbN hp0 hq0
        go_wp2
        go_ret3
        exact ⟨_, ret_i3 (by rw [HR.out]) rfl (by rw [HR.out]), (by rw [HR.out]; intro _; rfl), below_step HW.out HB⟩

set_option maxRecDepth 100000 in
set_option maxHeartbeats 2000000 in
theorem rexprCheck_any (p : ProgD) (ps : L FieldD) (x : L NodeD) (w : World) (o : ProgOk w p) (hps : LOk w 2 FieldD.cells ps) (hx : LOk w 3 NodeD.cells x) :
    Calls Tryz.prog 185 #[.slice x.A x.l.length x.c, .agg (scopeCells p ps)] w fun e w' => e = .returned (.tuple #[.int .i64 (exprM p ps.l x.l).1, .int .i64 (exprM p ps.l x.l).2]) ∧ Below w.heap.size w w' := by
  have HO := Lib.hid o
  have HP := Lib.hid hps
  have HX := Lib.hid hx
  have hm := hx.1
  clear o hps hx
  obtain ⟨W, hW, hw, HB, hp⟩ := box1 w (scopeCells p ps) 196
  have HW := Lib.hid hw
  clear hw
  by_cases h1 : 24 < x.l.length
  · have HR := Lib.hid (show exprM p ps.l x.l = (0, 12) by rw [exprM, if_pos h1])
    go_enter Tryz.func185, Tryz.ntmps185
    go_wp2
    go_ret2
    exact ⟨ret_pp HR.out, below1 _ _⟩
  have HR := Lib.hid (show exprM p ps.l x.l = _ by rw [exprM, if_neg h1])
  have hf := chkM_fine p ps.l x.l (x.l.length + 1) 0
  have hle : x.l.length ≤ 24 := by omega
  go_enter Tryz.func185, Tryz.ntmps185
  go_upto_region 1 with fail
  rw [← hW]
  clear hW
  go_wp2_with fail
  refine (rchk_any p ps x hle (x.l.length + 1) 0 _ (by omega) (by omega) (HO.out.below (below_step HW.out (by first | exact HB | exact below_alloc HB _ | exact below_alloc (below_alloc HB _) _ | exact below_alloc (below_alloc (below_alloc HB _) _) _))) (HP.out.below (below_step HW.out (by first | exact HB | exact below_alloc HB _ | exact below_alloc (below_alloc HB _) _ | exact below_alloc (below_alloc (below_alloc HB _) _) _)) (Nat.le_refl _)) (HX.out.below (below_step HW.out (by first | exact HB | exact below_alloc HB _ | exact below_alloc (below_alloc HB _) _ | exact below_alloc (below_alloc (below_alloc HB _) _) _)) (Nat.le_refl _))).mono ?_
  rintro e w1 ⟨z, rfl, hz, hbN⟩
  replace HB := below_step HB hbN
  clear hbN
  generalize chkM p ps.l x.l (x.l.length + 1) 0 = r at *
  obtain ⟨a, t, c⟩ := r
  simp only at HR hf hz
  by_cases k1 : c = 0
  · subst k1
    obtain ⟨_, f2, _⟩ := hf rfl
    obtain rfl := hz rfl
    clear hz hf
    by_cases k2 : t < x.l.length
    · replace HR : Hid (exprM p ps.l x.l = (0, 4)) := Lib.hid (by rw [HR.out]; simp [k2])
      go_wp2
      go_ret2
      exact ⟨ret_pp HR.out, below_step HW.out HB⟩
    · replace HR : Hid (exprM p ps.l x.l = (a, 0)) := Lib.hid (by rw [HR.out]; simp [k2])
      go_wp2
      go_ret2
      exact ⟨ret_pp HR.out, below_step HW.out HB⟩
  · have k1' : (c == 0) = false := beq_eq_false_iff_ne.2 k1
    replace HR : Hid (exprM p ps.l x.l = (0, c)) := Lib.hid (by rw [HR.out]; simp [k1])
    clear hz hf k1
    go_wp2
    go_ret2
    exact ⟨ret_pp HR.out, below_step HW.out HB⟩
end Go.Proofs.YtbfjknidinkafaaGreat

