/- Walks of chapter 34's examples (works) and of the law ResourceKinds. -/
import Derived.Test.YtgfbikknkcaneaaPgM0
import Derived.Test.YtgfbikknkcaneaaPgM1
namespace Go.Proofs.Ytgfbikknkcaneaa
open Go.RowKit

theorem table_any (kd : Int) (kb ar : Nat) (z : Int) (w : World) (hk : kb ≤ 1000) (ha : ar ≤ 32) :
    Calls Try.prog 12 #[.int .i64 kd, .int .i64 kb, .int .i64 ar, .int .i64 z] w fun e w' =>
      ∃ s : Sm, e = .returned s.prog.val ∧ SmAt w' s ∧ s.kd = kd ∧ s.nk = min (kb / 8) 6 ∧ s.pw = (if ar = 0 then none else some (ar : Int)) ∧ s.size = z ∧ Below w.heap.size w w' := by
  rcases Nat.eq_zero_or_pos ar with rfl | h
  · exact table_zero kd kb z w hk
  · rw [if_neg (by omega)]
    exact table_pos kd kb ar z w hk ha h

set_option maxRecDepth 100000 in
set_option maxHeartbeats 1000000 in
theorem unitCost_ok (s : Sm) (w : World) (h : SmAt w s) (o : SmOk s) (hk0 : 0 < s.nk) :
    Calls Try.prog 13 #[s.prog.val, .agg #[.int .i64 0, .slice none 0 0, .slice none 0 0]] w fun e w' => e = .returned (.agg #[.int .i64 ((costM s).1 : Int), .int .i64 ((costM s).2 : Int)]) ∧ Below w.heap.size w w' := by
  have HA := Lib.hid h
  have HO := Lib.hid o
  obtain ⟨W0, hW0, hb0, hp0, hq0⟩ := sm_box2 w s 42 #[.int .i64 0, .slice none 0 0, .slice none 0 0] 49
  have hsz : W0.heap.size = w.heap.size + 2 := by rw [hW0]; simp
  obtain ⟨W, hW⟩ : ∃ W, W = W0.alloc (.cells #[.int .i64 0, .int .i64 0] 27) := ⟨_, rfl⟩
  have hB0 : Below W0.heap.size W0 W := by rw [hW]; exact below1 _ _
  have hR : Blk W (w.heap.size + 2) 27 #[.int .i64 0, .int .i64 0] := by rw [hW]; exact Blk.newAt _ hsz _ _
  have HB := Lib.hid (below_step hb0 hB0)
  have HR := Lib.hid hR
  have HV := Lib.hid (Sm.val s)
  clear h o hR hb0 hsz hp0 hq0 hB0
  rw [Sm.val]
  go_enter Try.func13, Try.ntmps13
  go_wp2_with fail
  rw [← hW0, ← hW]
  clear hW hW0
  refine (tableCost_ok s W (HA.out.below HB.out) HO.out hk0).mono ?_
  rintro e w1 ⟨rfl, hb1⟩
  have r := HR.out.below hb1 HR.out.lt
  have HB1 := Lib.hid (below_step HB.out hb1)
  have HR1 := Lib.hid r
  have r0 : w1.cell? ⟨w.heap.size + 2, 0, none⟩ = some (.int .i64 0) := r.cell 0
  have r1 : w1.cell? ⟨w.heap.size + 2, 1, none⟩ = some (.int .i64 0) := r.cell 1
  have f0 := r.frozen 0
  have f1 := r.frozen 1
  clear r hb1
  generalize hca : (costM s).1 = a at *
  generalize hcb : (costM s).2 = b at *
  have HAB := Lib.hid (And.intro hca hcb)
  clear hca hcb
  go_wp2
  refine bodyPost_ret (results_cell_row (fn := Try.f13) (p := 4) (ty := 27) rfl _ _ (w.heap.size + 2) 27 #[.int .i64 (a : Int), .int .i64 (b : Int)] (0, 0) _ rfl ?hg Try.underlying27 rfl (by kernel_rfl)) rfl ⟨by rw [HAB.out.1, HAB.out.2], ?hb⟩
  case hg => exact ((HR1.out.set_ 0 _).set_ 1 _)
  case hb => exact Below.setCell (Below.setCell HB1.out (by show w.heap.size ≤ w.heap.size + 2; omega) _) (by show w.heap.size ≤ w.heap.size + 2; omega) _

/-- the builder's programs pass -/
theorem tbl_ok {s : Sm} {kd : Int} {kb ar : Nat} {z : Int} (h1 : s.kd = kd) (h2 : s.nk = min (kb / 8) 6) (h3 : s.pw = if ar = 0 then none else some (ar : Int)) (h4 : s.size = z)
    (hk : kd = 1 ∨ kd = 3) (ha : ar ≤ 32) (hz0 : 1 ≤ z) (hz1 : z ≤ 256) : SmOk s := by
  refine ⟨fun n hn => ?_, by rw [h1]; exact hk, by rw [h2]; omega, by rw [h4]; exact hz0, by rw [h4]; exact hz1⟩
  rw [h3] at hn
  split at hn
  · cases hn
  · injection hn with hn; omega
theorem tbl_arg {s : Sm} {ar : Nat} (h3 : s.pw = if ar = 0 then none else some (ar : Int)) : argM s = ar := by
  rw [argM, h3]
  by_cases h : ar = 0
  · rw [if_pos h]; exact h.symm
  · rw [if_neg h]; rfl
theorem tbl_cost1 {s : Sm} {kb ar z : Nat} (h1 : s.kd = 1) (h2 : s.nk = min (kb / 8) 6) (h3 : s.pw = if ar = 0 then none else some (ar : Int)) (h4 : s.size = (z : Int)) (h0 : 8 ≤ kb) :
    costM s = (ceilDiv (z * (8 * min (kb / 8) 6 + (8 + ar))) 4096, 0) := by
  rw [costM, if_neg (by omega), if_pos h1, h2, tbl_arg h3, h4]; rfl
theorem tbl_cost3 {s : Sm} {kb ar z : Nat} (h1 : s.kd = 3) (h2 : s.nk = min (kb / 8) 6) (h3 : s.pw = if ar = 0 then none else some (ar : Int)) (h4 : s.size = (z : Int)) (h0 : 8 ≤ kb) :
    costM s = (ceilDiv (z * (8 + ar)) 4096, ceilDiv (z * (8 * min (kb / 8) 6)) 2048) := by
  rw [costM, if_neg (by omega), if_neg (by omega), h2, tbl_arg h3, h4]; rfl

def exRes : List ResD := [⟨2, 6⟩, ⟨1, 0⟩, ⟨-5, 1⟩]
theorem exRes_at {w : World} {g : Nat} {t : TypeId} (h : Blk w g t #[.int .i64 2, .int .i64 6, .int .i64 1, .int .i64 0, .int .i64 (-5), .int .i64 1]) : LOk w 2 ResD.cells (⟨exRes, some ⟨g, 0, none⟩, 3⟩ : L ResD) := by
  refine ⟨show (3 : Nat) ≤ maxLen by decide, .inr ⟨g, 0, rfl, h.lt, fun i hi j hj => ?_⟩⟩
  rw [h.cell, show 0 + i * 2 + j = i * 2 + j by omega]
  have h3 : i < 3 := hi
  have : ∀ i : Fin 3, ∀ j : Fin 2, (#[.int .i64 2, .int .i64 6, .int .i64 1, .int .i64 0, .int .i64 (-5), .int .i64 1] : Array Value)[i.1 * 2 + j.1]? = (ResD.cells exRes[i.1])[j.1]? := by
    intro i j
    match i, j with
    | 0, 0 => rfl
    | 0, 1 => rfl
    | 1, 0 => rfl
    | 1, 1 => rfl
    | 2, 0 => rfl
    | 2, 1 => rfl
  exact this ⟨i, h3⟩ ⟨j, hj⟩
theorem exRes_wf : ∀ r ∈ exRes, r.wf := by
  intro r hr
  simp only [exRes, List.mem_cons, List.not_mem_nil, or_false] at hr
  rcases hr with rfl | rfl | rfl <;> (unfold ResD.wf; simp)
def chipOf (a b : Int) : Fin 8 → Int := fun i => if i.1 = 3 then a else if i.1 = 4 then b else 0

set_option maxRecDepth 100000 in
set_option maxHeartbeats 4000000 in
theorem works_any (w : World) : Calls Try.prog 6 #[] w fun e w' => e = .returned (.bool true) ∧ Below w.heap.size w w' := by
  go_enter Try.func6, Try.ntmps6
  go_wp2_with fail
  refine (table_any 3 48 16 256 _ (by omega) (by omega)).mono ?_
  rintro e w1 ⟨s, rfl, hs, k1, k2, k3, k4, hb1⟩
  have HO := Lib.hid (tbl_ok k1 k2 k3 k4 (.inr rfl) (by omega) (by omega) (by omega))
  have HC := Lib.hid (tbl_cost3 (z := 256) k1 k2 k3 k4 (by omega))
  have HN := Lib.hid (show 0 < s.nk by rw [k2]; decide)
  have HS := Lib.hid hs
  have HB1 := Lib.hid hb1
  clear k1 k2 k3 k4 hs hb1
  go_wp2_with fail
  refine (tableCost_ok s _ HS.out HO.out HN.out).mono ?_
  rintro e w2 ⟨he, hb2⟩
  replace he : e = .returned (.agg #[.int .i64 2, .int .i64 6]) := by rw [he, HC.out]; rfl
  subst he
  have HB2 := Lib.hid (below_step HB1.out hb2)
  clear hb2 HS HO HC HN
  obtain ⟨W, hW⟩ : ∃ W, W = w2.alloc (.cells #[.int .i64 2, .int .i64 6] 27) := ⟨_, rfl⟩
  have HA := Lib.hid (show Blk W w2.heap.size 27 #[.int .i64 2, .int .i64 6] by rw [hW]; exact Blk.new _ _ _)
  have HBW := Lib.hid (show Below w2.heap.size w2 W by rw [hW]; exact below1 _ _)
  go_wp2_with fail
  rw [← hW]
  clear hW
  refine (table_any 1 8 8 16 _ (by omega) (by omega)).mono ?_
  rintro e w3 ⟨s, rfl, hs, k1, k2, k3, k4, hb3⟩
  have HO := Lib.hid (tbl_ok k1 k2 k3 k4 (.inl rfl) (by omega) (by omega) (by omega))
  have HC := Lib.hid (tbl_cost1 (z := 16) k1 k2 k3 k4 (by omega))
  have HN := Lib.hid (show 0 < s.nk by rw [k2]; decide)
  have HS := Lib.hid hs
  have HB3 := Lib.hid hb3
  clear k1 k2 k3 k4 hs hb3
  go_wp2_with fail
  refine (unitCost_ok s _ HS.out HO.out HN.out).mono ?_
  rintro e w4 ⟨he, hb4⟩
  replace he : e = .returned (.agg #[.int .i64 1, .int .i64 0]) := by rw [he, HC.out]; rfl
  subst he
  have HB4 := Lib.hid (below_step HB3.out hb4)
  clear hb4 HS HO HC HN
  have HA4 := Lib.hid (HA.out.below HB4.out HA.out.lt)
  have a0 : w4.cell? ⟨w2.heap.size, 0, none⟩ = some (.int .i64 2) := HA4.out.cell 0
  have a1 : w4.cell? ⟨w2.heap.size, 1, none⟩ = some (.int .i64 6) := HA4.out.cell 1
  have hl := HA4.out.lt
  have hcl := @World.cell?_alloc_lt
  go_wp2_with fail
  obtain ⟨W5, hW5⟩ : ∃ W5, W5 = (w4.alloc (.cells #[.int .i64 1, .int .i64 0] 27)).alloc (.cells #[.int .i64 2, .int .i64 6, .int .i64 1, .int .i64 0, .int .i64 (-5), .int .i64 1] 27) := ⟨_, rfl⟩
  have HL5 := Lib.hid (show Blk W5 (w4.heap.size + 1) 27 #[.int .i64 2, .int .i64 6, .int .i64 1, .int .i64 0, .int .i64 (-5), .int .i64 1] by rw [hW5]; exact Blk.newAt _ (by simp) _ _)
  have HBB := Lib.hid (show Blk W5 w4.heap.size 27 #[.int .i64 1, .int .i64 0] by rw [hW5]; exact (Blk.new _ _ _).alloc _)
  have HB5 := Lib.hid (show Below w4.heap.size w4 W5 by rw [hW5]; exact below2 _ _ _)
  have HA5 := Lib.hid (HA4.out.below HB5.out HA4.out.lt)
  rw [← hW5]
  clear hW5 a0 a1 hl
  refine (sum_any (⟨exRes, some ⟨w4.heap.size + 1, 0, none⟩, 3⟩ : L ResD) W5 (exRes_at HL5.out) (show (3 : Nat) ≤ 1000 by omega) exRes_wf).mono ?_
  rintro e w6 ⟨he, hb6⟩
  replace he : e = .returned (.agg #[.int .i64 3, .int .i64 7]) := by rw [he]; rfl
  subst he
  have a0 : w6.cell? ⟨w2.heap.size, 0, none⟩ = some (.int .i64 2) := (HA5.out.below hb6 HA5.out.lt).cell 0
  have a1 : w6.cell? ⟨w2.heap.size, 1, none⟩ = some (.int .i64 6) := (HA5.out.below hb6 HA5.out.lt).cell 1
  have b0 : w6.cell? ⟨w4.heap.size, 0, none⟩ = some (.int .i64 1) := (HBB.out.below hb6 HBB.out.lt).cell 0
  have b1 : w6.cell? ⟨w4.heap.size, 1, none⟩ = some (.int .i64 0) := (HBB.out.below hb6 HBB.out.lt).cell 1
  have hl1 : w2.heap.size < w6.heap.size := (HA5.out.below hb6 HA5.out.lt).lt
  have hl2 : w4.heap.size < w6.heap.size := (HBB.out.below hb6 HBB.out.lt).lt
  have HA6 := Lib.hid (HA5.out.below hb6 HA5.out.lt)
  have HB6 := Lib.hid (below_step HB2.out (below_step HBW.out (below_step HB4.out (below_step HB5.out hb6))))
  clear hb6
  go_wp2_with fail
  refine (fits_any2 2 6 (chipOf 2 6) _).mono ?_
  rintro e w7 ⟨he, hb7⟩
  replace he : e = .returned (.bool true) := by rw [he]; rfl
  subst he
  have hb7' := below_step (below1 w6 _) hb7
  have c0 : w7.cell? ⟨w2.heap.size, 0, none⟩ = some (.int .i64 2) := (HA6.out.below hb7' HA6.out.lt).cell 0
  have c1 : w7.cell? ⟨w2.heap.size, 1, none⟩ = some (.int .i64 6) := (HA6.out.below hb7' HA6.out.lt).cell 1
  have HB7 := Lib.hid (below_step HB6.out hb7')
  clear hb7 hb7' a0 a1 b0 b1 hl1 hl2
  go_wp2_with fail
  refine (fits_any2 2 6 (chipOf 2 5) _).mono ?_
  rintro e w8 ⟨he, hb8⟩
  replace he : e = .returned (.bool false) := by rw [he]; rfl
  subst he
  have HB8 := Lib.hid (below_step HB7.out hb8)
  clear hb8 c0 c1
  go_wp2
  go_ret
  exact ⟨rfl, HB8.out⟩
end Go.Proofs.Ytgfbikknkcaneaa

