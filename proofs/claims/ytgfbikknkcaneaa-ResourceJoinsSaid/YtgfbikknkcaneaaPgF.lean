/- Walks of table's checks at the small programs: the keys, the whole table. -/
import Derived.Test.YtgfbikknkcaneaaPgE
namespace Go.Proofs.Ytgfbikknkcaneaa
open Go.RowKit

theorem width_in (s : Sm) : widthAt s.prog (-1) 0 = 8 := by
  have h1 : fieldsM s.prog (-1) = ⟨metaL, some ⟨s.mg, s.mo, none⟩, s.mc⟩ := by rw [fieldsM, if_pos rfl]; rfl
  unfold widthAt
  rw [h1]
  have h2 : fieldAt (⟨metaL, some ⟨s.mg, s.mo, none⟩, s.mc⟩ : L FieldD) 0 = ⟨⟨#[105, 110]⟩, 8⟩ := by rw [fieldAt, if_neg (by decide)]; rfl
  rw [h2]
  rfl

set_option maxRecDepth 100000 in
set_option maxHeartbeats 4000000 in
theorem checkKeys_ok (s : Sm) (w : World) (h : SmAt w s) (o : SmOk s) :
    Calls Try.prog 61 #[s.prog.val, .agg #[.string ⟨#[116]⟩, .slice s.kA s.nk s.kc, .slice (some ⟨s.ig, s.io, none⟩) 1 s.ic, .int .i64 0, .slice s.dA s.np s.dc, .int .i64 s.size]] w
      fun e w' => e = .returned (.tuple #[.int .i64 0, .int .i64 0]) ∧ Below w.heap.size w w' := by
  have HA := Lib.hid h
  have HO := Lib.hid o
  have HW := Lib.hid (width_in s)
  have hnk := o.nk
  have hca := @World.cell?_alloc_some
  obtain ⟨W, hW, hb, hp, hsz⟩ := sm_box3 w s
  clear hsz
  have HB := Lib.hid hb
  have H0 := Lib.hid (Below.refl W.heap.size W)
  have hkd := o.kd
  have HV := Lib.hid (Sm.val s)
  clear h o hb
  rw [Sm.val]
  generalize hk : s.kA = kA at hW hp ⊢
  have HK := Lib.hid hk
  clear hk
  rcases hkd with hkd | hkd
  all_goals
    go_enter Try.func61, Try.ntmps61
    go_wp2
    rw [← hW]
    clear hW
    go_loopw [6, 7, 14] (fun lv bv iv wr => ∃ k : Nat, k ≤ s.nk ∧ iv = .int .i64 k ∧ lv = .int .i64 0 ∧ bv = .int .i64 ((8 * k : Nat) : Int) ∧ Below W.heap.size W wr) (fun _ _ i _ => s.nk - (intOf i).toNat)
    case atStart => exact ⟨0, Nat.zero_le _, rfl, rfl, rfl, H0.out⟩
    case round =>
      obtain ⟨k, hk, rfl, rfl, rfl, hbel⟩ := hrel
      by_cases hlt : k < s.nk
      · obtain ⟨g, of, hA, d0, d1, d2⟩ := (HA.out.below (below_step HB.out hbel)).key hlt
        have hA' : kA = some ⟨g, of, none⟩ := HK.out.symm.trans hA
        subst hA'
        rw [hkd] at d2
        clear hA
        have hp1 := hp wr hbel
        go_wp2_with fail
        have hw := width_any s.prog (-1) 0 (wr.alloc (.cells #[.int .i64 (-1), .int .i64 0, .int .i64 s.kd] 67)) (HA.out.ok.below (below_step HB.out (below_alloc hbel _)))
        rw [HV.out, HW.out, hkd] at hw
        refine hw.mono ?_
        clear hw hp1 d0 d1 d2
        rintro e w2 ⟨rfl, hb2⟩
        have hbel2 := below_step (below_alloc hbel _) hb2
        have hk2 : w2.cell? ⟨wr.heap.size, 2, none⟩ = some (.int .i64 s.kd) := below_cell hb2 (by rw [hkd]; simp)
        rw [hkd] at hk2
        clear hb2
        go_wp2
        go_roundw
        case rel => exact ⟨k + 1, by omega, by go_num, rfl, by go_num, hbel2⟩
        case measure => simp [intOf]; omega
      · have hke : k ≤ 6 := by omega
        have HB2 := Lib.hid hbel
        go_wp2
        go_ret2
        exact ⟨rfl, below_step HB.out HB2.out⟩

set_option maxRecDepth 100000 in
set_option maxHeartbeats 4000000 in
theorem tableCheck_ok (s : Sm) (w : World) (h : SmAt w s) (o : SmOk s) :
    Calls Try.prog 48 #[s.prog.val, .int .i64 0] w fun e w' => e = .returned (.tuple #[.int .i64 0, .int .i64 0]) ∧ Below w.heap.size w w' := by
  have HA := Lib.hid h
  have HO := Lib.hid o
  have hca := @World.cell?_alloc_some
  have hnk := o.nk
  have hlo := o.lo
  have hhi := o.hi
  obtain ⟨c0, c1, c2, c3, c4, c5⟩ := h.tabs
  obtain ⟨W, hW, hb, hp, hsz⟩ := sm_box3 w s
  clear hsz
  have HB := Lib.hid hb
  have H0 := Below.refl W.heap.size W
  have HV := Lib.hid (Sm.val s)
  clear h o hb
  rw [Sm.val]
  go_enter Try.func48, Try.ntmps48
  go_wp2_with fail
  rw [← hW]
  clear hW c0 c1 c2 c3 c4 c5 hca
  refine (isIdent_any ⟨#[116]⟩ _ (by decide)).mono ?_
  rintro e w' ⟨rfl, rfl⟩
  rw [show identM (⟨#[116]⟩ : ByteArray).data.toList = true by decide +kernel]
  go_wp2_with fail
  have hk := checkKeys_ok s W (HA.out.below HB.out) HO.out
  rw [HV.out] at hk
  refine hk.mono ?_
  clear hk
  rintro e w1 ⟨rfl, hb1⟩
  go_wp2_with fail
  have hk := checkActions_ok s w1 (HA.out.below (below_step HB.out hb1)) HO.out
  rw [HV.out] at hk
  refine hk.mono ?_
  clear hk
  rintro e w2 ⟨rfl, hb2⟩
  have HB2 := Lib.hid (below_step (below_step HB.out hb1) hb2)
  go_wp2
  go_ret2
  exact ⟨rfl, HB2.out⟩

set_option maxRecDepth 100000 in
theorem valid_ok (s : Sm) (w : World) (h : SmAt w s) (o : SmOk s) :
    Calls Try.prog 29 #[s.prog.val, .int .i64 0] w fun e w' => e = .returned (.bool true) ∧ Below w.heap.size w w' := by
  have HA := Lib.hid h
  have HO := Lib.hid o
  obtain ⟨W, hW, hb, hp⟩ := sm_box w s 42
  have HB := Lib.hid hb
  have HV := Lib.hid (Sm.val s)
  clear h o hb
  rw [Sm.val]
  go_enter Try.func29, Try.ntmps29
  go_wp2_with fail
  rw [← hW]
  clear hW
  have hk := tableCheck_ok s W (HA.out.below HB.out) HO.out
  rw [HV.out] at hk
  refine hk.mono ?_
  clear hk
  rintro e w1 ⟨rfl, hb1⟩
  go_wp2
  go_ret
  exact ⟨rfl, below_step HB.out hb1⟩

def kindM (s : Sm) : Int := if s.kd = 3 ∧ 0 < s.nk then 3 else 1
set_option maxRecDepth 100000 in
set_option maxHeartbeats 4000000 in
theorem kind_ok (s : Sm) (w : World) (h : SmAt w s) (o : SmOk s) :
    Calls Try.prog 19 #[s.prog.val, .int .i64 0] w fun e w' => e = .returned (.int .i64 (kindM s)) ∧ Below w.heap.size w w' := by
  have HA := Lib.hid h
  have HO := Lib.hid o
  have hnk := o.nk
  obtain ⟨W, hW, hb, hp⟩ := sm_box w s 42
  have HB := Lib.hid hb
  have HV := Lib.hid (Sm.val s)
  have hkd := o.kd
  clear h o hb
  rw [Sm.val]
  go_enter Try.func19, Try.ntmps19
  go_wp2_with fail
  rw [← hW]
  clear hW
  have hk := valid_ok s W (HA.out.below HB.out) HO.out
  rw [HV.out] at hk
  refine hk.mono ?_
  clear hk
  rintro e w1 ⟨rfl, hb1⟩
  have B1 := below_step HB.out hb1
  obtain ⟨c0, c1, c2, c3, c4, c5⟩ := (HA.out.below B1).tabs
  have HB1 := Lib.hid B1
  clear B1 c0 c2 c3 c4 c5
  generalize hk : s.kA = kA at *
  have HK := Lib.hid hk
  clear hk
  go_wp2
  rcases hkd with hkd | hkd
  · have HM := Lib.hid (show kindM s = 1 by rw [kindM, if_neg]; omega)
    go_loopw [5, 19] (fun bv iv wr => ∃ k : Nat, k ≤ s.nk ∧ iv = .int .i64 k ∧ bv = .int .i64 1 ∧ Below w.heap.size w wr) (fun _ i _ => s.nk - (intOf i).toNat)
    case atStart => exact ⟨0, Nat.zero_le _, rfl, rfl, HB1.out⟩
    case round =>
      obtain ⟨k, hk, rfl, rfl, hbel⟩ := hrel
      by_cases hlt : k < s.nk
      · obtain ⟨g, of, hA, d0, d1, d2⟩ := (HA.out.below hbel).key hlt
        have hA' : kA = some ⟨g, of, none⟩ := HK.out.symm.trans hA
        subst hA'
        rw [hkd] at d2
        clear hA
        go_wp2
        go_roundw
        case rel => exact ⟨k + 1, by omega, by go_num, rfl, below_alloc hbel _⟩
        case measure => simp [intOf]; omega
      · go_wp2
        go_ret
        exact ⟨by rw [HM.out]; rfl, hbel⟩
  · rcases Nat.eq_zero_or_pos s.nk with h0 | h0
    · have HM := Lib.hid (show kindM s = 1 by rw [kindM, if_neg]; omega)
      refine wp_loop_rounds 1 ?_
      rw [rounds_succ]
      go_wp2
      go_ret
      exact ⟨by rw [HM.out]; rfl, HB1.out⟩
    · have HM := Lib.hid (show kindM s = 3 by rw [kindM, if_pos ⟨hkd, h0⟩])
      obtain ⟨g, of, hA, d0, d1, d2⟩ := (HA.out.below HB1.out).key h0
      have hA' : kA = some ⟨g, of, none⟩ := HK.out.symm.trans hA
      subst hA'
      rw [hkd] at d2
      simp only [Nat.zero_mul, Nat.add_zero] at d0 d1 d2
      clear hA
      refine wp_loop_rounds 1 ?_
      rw [rounds_succ]
      go_wp2
      go_ret
      exact ⟨by rw [HM.out]; rfl, below_alloc HB1.out _⟩
end Go.Proofs.Ytgfbikknkcaneaa

