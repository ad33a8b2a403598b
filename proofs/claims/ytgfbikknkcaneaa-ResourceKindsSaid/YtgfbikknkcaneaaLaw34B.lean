/- Walk of the law ResourceKinds. -/
import Derived.Test.YtgfbikknkcaneaaLaw34A
namespace Go.Proofs.Ytgfbikknkcaneaa
open Go.RowKit

theorem ceil_le (m k : Nat) (hk : 0 < k) : m ≤ k * ceilDiv m k := by
  unfold ceilDiv
  have := Nat.div_add_mod (m + k - 1) k
  have h2 := Nat.mod_lt (m + k - 1) hk
  omega
theorem ceil_lt (m k : Nat) (hk : 0 < k) (hm : 0 < m) : k * ceilDiv m k < m + k := by
  unfold ceilDiv
  have := Nat.div_add_mod (m + k - 1) k
  omega

set_option maxRecDepth 100000 in
set_option maxHeartbeats 4000000 in
theorem kinds_nat (k0 a0 s0 : Nat) (hk : k0 < 256) (ha : a0 < 256) (hs : s0 < 256) (w : World) :
    Calls Try.prog 5 #[.int .u8 k0, .int .u8 a0, .int .u8 s0] w fun e w' => e = .returned (.bool true) ∧ Below w.heap.size w w' := by
  obtain ⟨kb, e1, k8, k48, ekb⟩ : ∃ kb : Nat, (k0 : Int) % 6 * 8 + 8 = (kb : Nat) ∧ 8 ≤ kb ∧ kb ≤ 48 ∧ 8 * min (kb / 8) 6 = kb := ⟨k0 % 6 * 8 + 8, by omega, by omega, by omega, by omega⟩
  obtain ⟨ar, e2, a33⟩ : ∃ ar : Nat, (a0 : Int) % 33 = (ar : Nat) ∧ ar ≤ 32 := ⟨a0 % 33, by omega, by omega⟩
  obtain ⟨z, e3, z1, z256⟩ : ∃ z : Nat, (s0 : Int) + 1 = (z : Nat) ∧ 1 ≤ z ∧ z ≤ 256 := ⟨s0 + 1, by omega, by omega, by omega⟩
  have HE := Lib.hid (And.intro e1 (And.intro e2 e3))
  have HK := Lib.hid (And.intro k8 (And.intro k48 ekb))
  clear e1 e2 e3 ekb
  go_enter Try.func5, Try.ntmps5
  go_wp2_with fail
  rw [HE.out.1, HE.out.2.1, HE.out.2.2]
  refine (table_any 1 kb ar z _ (by omega) (by omega)).mono ?_
  rintro e w1 ⟨s, rfl, hs1, k1, k2, k3, k4, hb1⟩
  have HO := Lib.hid (tbl_ok k1 k2 k3 k4 (.inl rfl) (by omega) (by omega) (by omega))
  have HC := Lib.hid (tbl_cost1 (z := z) k1 k2 k3 k4 HK.out.1)
  have HN := Lib.hid (show 0 < s.nk by rw [k2]; have := HK.out.1; omega)
  have HS := Lib.hid hs1
  have HB1 := Lib.hid hb1
  clear k1 k2 k3 k4 hs1 hb1
  go_wp2_with fail
  refine (tableCost_ok s _ HS.out HO.out HN.out).mono ?_
  rintro e w2 ⟨he, hb2⟩
  obtain ⟨m1, q1, HM1, HQ1, he⟩ : ∃ m1 q1 : Nat, Hid (m1 = z * (kb + (8 + ar))) ∧ Hid (q1 = ceilDiv m1 4096) ∧ e = .returned (.agg #[.int .i64 (q1 : Int), .int .i64 0]) :=
    ⟨_, _, Lib.hid rfl, Lib.hid rfl, by rw [he, HC.out, HK.out.2.2]; rfl⟩
  subst he
  have HB2 := Lib.hid (below_step HB1.out hb2)
  clear hb2 HS HO HC HN
  obtain ⟨W, hW⟩ : ∃ W, W = w2.alloc (.cells #[.int .i64 (q1 : Int), .int .i64 0] 27) := ⟨_, rfl⟩
  have HA := Lib.hid (show Blk W w2.heap.size 27 #[.int .i64 (q1 : Int), .int .i64 0] by rw [hW]; exact Blk.new _ _ _)
  have HBW := Lib.hid (show Below w.heap.size w W by rw [hW]; exact below_step HB2.out (below1 _ _))
  go_wp2_with fail
  rw [← hW]
  clear hW
  refine (table_any 3 kb ar z _ (by omega) (by omega)).mono ?_
  rintro e w3 ⟨s, rfl, hs1, k1, k2, k3, k4, hb3⟩
  have HO := Lib.hid (tbl_ok k1 k2 k3 k4 (.inr rfl) (by omega) (by omega) (by omega))
  have HC := Lib.hid (tbl_cost3 (z := z) k1 k2 k3 k4 HK.out.1)
  have HN := Lib.hid (show 0 < s.nk by rw [k2]; have := HK.out.1; omega)
  have HS := Lib.hid hs1
  have HB3 := Lib.hid (below_step HBW.out hb3)
  have HA3 := Lib.hid (HA.out.below hb3 HA.out.lt)
  clear k1 k2 k3 k4 hs1 hb3 HA
  go_wp2_with fail
  refine (tableCost_ok s _ HS.out HO.out HN.out).mono ?_
  rintro e w4 ⟨he, hb4⟩
  obtain ⟨m2, m3, q2, q3, HM2, HM3, HQ2, HQ3, he⟩ : ∃ m2 m3 q2 q3 : Nat, Hid (m2 = z * kb) ∧ Hid (m3 = z * (8 + ar)) ∧ Hid (q2 = ceilDiv m2 2048) ∧ Hid (q3 = ceilDiv m3 4096) ∧ e = .returned (.agg #[.int .i64 (q3 : Int), .int .i64 (q2 : Int)]) :=
    ⟨_, _, _, _, Lib.hid rfl, Lib.hid rfl, Lib.hid rfl, Lib.hid rfl, by rw [he, HC.out, HK.out.2.2]⟩
  subst he
  have HB4 := Lib.hid (below_step HB3.out hb4)
  have HA4 := Lib.hid (HA3.out.below hb4 HA3.out.lt)
  clear hb4 HS HO HC HN HA3
  have c0 : w4.cell? ⟨w2.heap.size, 0, none⟩ = some (.int .i64 (q1 : Int)) := HA4.out.cell 0
  have c1 : w4.cell? ⟨w2.heap.size, 1, none⟩ = some (.int .i64 0) := HA4.out.cell 1
  have hl := HA4.out.lt
  have hcl := @World.cell?_alloc_lt
  have zk : z * kb ≤ 256 * 48 := Nat.mul_le_mul z256 HK.out.2.1
  have za : z * (8 + ar) ≤ 256 * 40 := Nat.mul_le_mul z256 (by omega)
  have zk0 : 0 < z * kb := Nat.mul_pos (by omega) (by omega)
  have za0 : 0 < z * (8 + ar) := Nat.mul_pos (by omega) (by omega)
  have em1 : m1 = z * kb + z * (8 + ar) := by rw [HM1.out, Nat.mul_add]
  have hm1 : (z : Int) * ((kb : Int) + 8 + (ar : Int)) = (m1 : Int) := by rw [HM1.out]; push_cast; congr 1; omega
  have hm2 : (z : Int) * (kb : Int) = (m2 : Int) := by rw [HM2.out]; push_cast; rfl
  have hm3 : (z : Int) * (8 + (ar : Int)) = (m3 : Int) := by rw [HM3.out]; push_cast; rfl
  have b1 : m1 ≤ 30000 := by omega
  have b2 : m2 ≤ 30000 := by rw [HM2.out]; omega
  have b3 : m3 ≤ 30000 := by rw [HM3.out]; omega
  have p1 : 0 < m1 := by omega
  have p2 : 0 < m2 := by rw [HM2.out]; omega
  have p3 : 0 < m3 := by rw [HM3.out]; omega
  have r1 := ceil_le m1 4096 (by omega)
  have s1 := ceil_lt m1 4096 (by omega) p1
  have r2 := ceil_le m2 2048 (by omega)
  have s2 := ceil_lt m2 2048 (by omega) p2
  have r3 := ceil_le m3 4096 (by omega)
  have s3 := ceil_lt m3 4096 (by omega) p3
  rw [← HQ1.out] at r1 s1
  rw [← HQ2.out] at r2 s2
  rw [← HQ3.out] at r3 s3
  have t1 : (m1 : Int) ≤ 4096 * (q1 : Int) := by omega
  have u1 : 4096 * ((q1 : Int) - 1) < (m1 : Int) := by omega
  have t2 : (m2 : Int) ≤ 2048 * (q2 : Int) := by omega
  have u2 : 2048 * ((q2 : Int) - 1) < (m2 : Int) := by omega
  have t3 : (m3 : Int) ≤ 4096 * (q3 : Int) := by omega
  have u3 : 4096 * ((q3 : Int) - 1) < (m3 : Int) := by omega
  have v1 : q1 ≤ 40000 := by omega
  have v2 : q2 ≤ 40000 := by omega
  have v3 : q3 ≤ 40000 := by omega
  clear zk za zk0 za0 em1 r1 s1 r2 s2 r3 s3 p1 p2 p3
  go_wp2_with fail
  refine (works_any _).mono ?_
  rintro e w6 ⟨rfl, hb6⟩
  have HB6 := Lib.hid (below_step (below_step HB4.out (below1 _ _)) hb6)
  go_wp2
  go_ret
  exact ⟨rfl, HB6.out⟩

theorem kinds_any (a0 a1 a2 : Int) (w : World) (w0 : (Lit.int .u8 a0).wf = true) (w1 : (Lit.int .u8 a1).wf = true) (w2 : (Lit.int .u8 a2).wf = true) :
    Calls Try.prog 5 #[.int .u8 a0, .int .u8 a1, .int .u8 a2] w fun e w' => e = .returned (.bool true) ∧ Below w.heap.size w w' := by
  have h0 := w0; have h1 := w1; have h2 := w2
  simp [Lit.wf, go_sem] at h0 h1 h2
  have hmin : IntKind.u8.min = 0 := rfl
  have hmax : IntKind.u8.max = 255 := rfl
  obtain ⟨k0, rfl⟩ := Int.eq_ofNat_of_zero_le (show 0 ≤ a0 by omega)
  obtain ⟨a0', rfl⟩ := Int.eq_ofNat_of_zero_le (show 0 ≤ a1 by omega)
  obtain ⟨s0, rfl⟩ := Int.eq_ofNat_of_zero_le (show 0 ≤ a2 by omega)
  exact kinds_nat k0 a0' s0 (by omega) (by omega) (by omega) w
end Go.Proofs.Ytgfbikknkcaneaa
