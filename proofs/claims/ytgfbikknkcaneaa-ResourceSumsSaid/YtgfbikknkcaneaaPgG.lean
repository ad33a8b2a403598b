/- Walks of table.Widths and Bits at the small programs. -/
import Derived.Test.YtgfbikknkcaneaaPgF
namespace Go.Proofs.Ytgfbikknkcaneaa
open Go.RowKit

theorem Try.infoInt : (Try.prog.info? 3).map (fun i => (i.zero, i.size, i.bytes)) = some (some (.int .i64 0), 1, 8) := by kernel_rfl
theorem one_int (w : World) (n : Int) (t : TypeId) : ∀ j v, [Value.int .i64 n][j]? = some v → (w.alloc (.cells #[.int .i64 n] t)).cell? ((⟨w.heap.size, 0, none⟩ : Addr).add j) = some v := by
  intro j v hj
  match j, hj with
  | 0, hj => simp at hj; subst hj; simp [Addr.add]
theorem own_weaken {w : World} {b b' : Nat} {e : TypeId} {size : Nat} {v : Value} {n : Nat} {xs : List Value} (hb : b' ≤ b) (h : w.ownsRow b e size v n xs) : w.ownsRow b' e size v n xs := by
  refine ⟨h.1, ?_⟩
  rcases h.2 with hn | ⟨g, cap, cur, hv, hg, rest⟩
  · exact .inl hn
  · exact .inr ⟨g, cap, cur, hv, Nat.le_trans hb hg, rest⟩

set_option maxRecDepth 100000 in
set_option maxHeartbeats 4000000 in
theorem widths_ok (s : Sm) (w : World) (h : SmAt w s) (o : SmOk s) :
    Calls Try.prog 28 #[s.prog.val, .int .i64 0] w fun e w' =>
      ∃ A c, e = .returned (.slice A s.nk c) ∧ w'.ownsRow w.heap.size 3 1 (.slice A s.nk c) s.nk (List.replicate s.nk (.int .i64 8)) ∧ Below w.heap.size w w' := by
  have HA := Lib.hid h
  have HO := Lib.hid o
  have HW := Lib.hid (width_in s)
  have hnk := o.nk
  obtain ⟨W, hW, hb, hp⟩ := sm_box w s 42
  have HB := Lib.hid hb
  have HV := Lib.hid (Sm.val s)
  clear h o hb
  obtain ⟨i0, hi, hz0, hz1, hz2⟩ := info_parts Try.infoInt
  rw [Sm.val]
  go_enter Try.func28, Try.ntmps28
  go_wp2_with fail
  rw [← hW]
  clear hW
  have hk := valid_ok s W (HA.out.below HB.out) HO.out
  rw [HV.out] at hk
  refine hk.mono ?_
  clear hk
  rintro e w1 ⟨rfl, hb1⟩
  have B1 := below_step HB.out hb1
  obtain ⟨c0, c1, c2, c3, c4, c5⟩ := (HA.out.below B1).tabs
  have HB1 := Lib.hid B1
  have Hb1 := Lib.hid hb1
  clear B1 c0 c2 c3 c4 c5
  generalize hk : s.kA = kA at *
  have HK := Lib.hid hk
  clear hk
  go_wp2
  clear c1
  go_loopw [5, 7, 19] (fun ov _ iv wr => ∃ (k : Nat) (A : Option Addr) (c : Nat), k ≤ s.nk ∧ iv = .int .i64 k ∧ ov = .slice A k c ∧ wr.ownsRow W.heap.size 3 1 (.slice A k c) k (List.replicate k (.int .i64 8)) ∧ Below W.heap.size W wr)
    (fun _ _ i _ => s.nk - (intOf i).toNat)
  case atStart => exact ⟨0, none, 0, Nat.zero_le _, rfl, rfl, World.ownsRow_nil _ _ _ _, Hb1.out⟩
  case round =>
    obtain ⟨k, A, c, hk, rfl, rfl, hown, hbel⟩ := hrel
    by_cases hlt : k < s.nk
    · obtain ⟨g, of, hA, d0, d1, d2⟩ := (HA.out.below (below_step HB.out hbel)).key hlt
      have hA' : kA = some ⟨g, of, none⟩ := HK.out.symm.trans hA
      subst hA'
      clear hA
      have hp1 := hp wr hbel
      have hca := @World.cell?_alloc_some
      have HO1 := Lib.hid hown
      have HBE := Lib.hid hbel
      clear hown hbel hb1
      go_wp2_with fail
      have hw := width_any s.prog (-1) 0 (wr.alloc (.cells #[.int .i64 (-1), .int .i64 0, .int .i64 s.kd] 67)) (HA.out.ok.below (below_step HB.out (below_alloc HBE.out _)))
      rw [HV.out, HW.out] at hw
      refine hw.mono ?_
      clear hw d0 d1 d2 hp1 hca
      rintro e w2 ⟨rfl, hb2⟩
      have hbel2 := below_step (below_alloc HBE.out _) hb2
      have hown2 := own_below HO1.out (below_step (below1 wr _) hb2)
      have hw2 := hbel2.size
      clear hb2
      go_wp2_with (first
        | (at_builtin; refine wpList_append_own _ rfl _ _ 40 rfl W.heap.size 3 i0 _ 1 8 Try.underlying40 hi hz0 hz1 hz2 rfl (by decide) _ _ _ rfl (hown2.alloc _) ⟨w2.heap.size, 0, none⟩ 1 1 [.int .i64 8] rfl rfl ?c1 ?c2 ?c3 ?c4 ?c5 ?_))
      case c1 => exact one_int _ _ _
      case c2 => intro u hu; simp at hu; subst hu; rfl
      case c3 => unfold maxLen; omega
      case c4 => omega
      case c5 => simp; omega
      intro v' w3 hown3 hgrow _
      have hbw : Below W.heap.size W w3 := (below_alloc hbel2 _).grown hgrow (below_alloc hbel2 _).size fun j hj => (hown2.lt j hj).1
      obtain ⟨A', c', rfl⟩ : ∃ A' c', v' = .slice A' (k + 1) c' := by
        rcases hown3.2 with ⟨hv, h0⟩ | ⟨g', cap, cur, hv, _, _, _⟩
        · omega
        · exact ⟨_, _, hv⟩
      go_wp2
      go_roundw
      case rel =>
        refine ⟨k + 1, A', c', by omega, by go_num, rfl, ?_, hbw⟩
        rw [List.replicate_succ']
        exact hown3
      case measure => simp [intOf]; omega
    · have hk' : k = s.nk := by omega
      subst hk'
      have HO1 := Lib.hid hown
      have HBE := Lib.hid hbel
      clear hown hbel
      go_wp2
      go_ret
      exact ⟨A, c, rfl, own_weaken HB.out.size HO1.out, below_step HB.out HBE.out⟩

set_option maxRecDepth 100000 in
set_option maxHeartbeats 2000000 in
theorem bits_ok (s : Sm) (w : World) (h : SmAt w s) (o : SmOk s) :
    Calls Try.prog 17 #[s.prog.val, .int .i64 0] w fun e w' => e = .returned (.int .i64 ((8 * s.nk : Nat) : Int)) ∧ Below w.heap.size w w' := by
  have HA := Lib.hid h
  have HO := Lib.hid o
  have hnk := o.nk
  obtain ⟨W, hW, hb, hp⟩ := sm_box w s 42
  have HB := Lib.hid hb
  have HV := Lib.hid (Sm.val s)
  clear h o hb
  rw [Sm.val]
  go_enter Try.func17, Try.ntmps17
  go_wp2_with fail
  rw [← hW]
  clear hW
  have hk := widths_ok s W (HA.out.below HB.out) HO.out
  rw [HV.out] at hk
  refine hk.mono ?_
  clear hk
  rintro e w1 ⟨A, c, rfl, hown, hb1⟩
  have HW1 := Lib.hid hown
  have HB1 := Lib.hid (below_step HB.out hb1)
  clear hown hb1 hp
  go_wp2
  go_loopw [5, 12] (fun bv iv wr => ∃ k : Nat, k ≤ s.nk ∧ iv = .int .i64 k ∧ bv = .int .i64 ((8 * k : Nat) : Int) ∧ wr = w1) (fun _ i _ => s.nk - (intOf i).toNat)
  case atStart => exact ⟨0, Nat.zero_le _, rfl, rfl, rfl⟩
  case round =>
    obtain ⟨k, hk, rfl, rfl, rfl⟩ := hrel
    by_cases hlt : k < s.nk
    · obtain ⟨g, cap, hv, _, _⟩ := HW1.out.form (by omega : 0 < s.nk)
      have hA : A = some ⟨g, 0, none⟩ := by injection hv
      subst hA
      have hc := HW1.out.cellAt k (by omega)
      rw [List.getElem?_replicate, if_pos hlt] at hc
      clear hv
      go_wp2
      go_roundw
      case rel => exact ⟨k + 1, by omega, by go_num, by go_num⟩
      case measure => simp [intOf]; omega
    · have hke : k = s.nk := by omega
      subst hke
      go_wp2
      go_ret
      exact ⟨rfl, HB1.out⟩
end Go.Proofs.Ytgfbikknkcaneaa

