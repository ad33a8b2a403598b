/- Walks of package resource at the small programs. -/
import Derived.Test.YtgfbikknkcaneaaPgI
namespace Go.Proofs.Ytgfbikknkcaneaa
open Go.RowKit

theorem blocks_any (n s : Nat) (w : World) (hn : n ≤ 1000000) (h1 : 1 ≤ s) (h2 : s ≤ 10000) :
    Calls Try.prog 20 #[.int .i64 n, .int .i64 s] w fun e w' => e = .returned (.int .i64 (((n + s - 1) / s : Nat) : Int)) ∧ w = w' := by
  have hq : Int.tdiv ((n : Int) + (s : Int) - 1) (s : Int) = (((n + s - 1) / s : Nat) : Int) := by
    rw [show (n : Int) + (s : Int) - 1 = ((n + s - 1 : Nat) : Int) by omega, Int.ofNat_tdiv]
  have hle : (n + s - 1) / s ≤ n + s := Nat.le_trans (Nat.div_le_self _ _) (by omega)
  have hz : ¬ (s : Int) = 0 := by omega
  have hz' : ((s : Int) == 0) = false := beq_eq_false_iff_ne.2 hz
  go_enter Try.func20, Try.ntmps20
  have hw : wrap64 (((n + s - 1 : Nat) : Int) / (s : Int)) = (((n + s - 1) / s : Nat) : Int) := by
    rw [← Int.natCast_ediv]
    clear hq
    generalize (n + s - 1) / s = q at hle ⊢
    unfold Go.RowKit.wrap64; omega
  go_wp2
  go_ret
  exact ⟨congrArg (fun z => Ending.returned (.int .i64 z)) hw, rfl⟩

def argM (s : Sm) : Nat := match s.pw with | none => 0 | some n => n.toNat
theorem argM_le {s : Sm} (o : SmOk s) : argM s ≤ 32 := by
  unfold argM
  rcases hp : s.pw with _ | n
  · exact Nat.zero_le _
  · have := o.pw n hp; simp only; omega

set_option maxRecDepth 100000 in
set_option maxHeartbeats 4000000 in
theorem argumentBits_ok (s : Sm) (w : World) (h : SmAt w s) (o : SmOk s) :
    Calls Try.prog 18 #[s.prog.val, .agg #[.string ⟨#[116]⟩, .slice s.kA s.nk s.kc, .slice (some ⟨s.ig, s.io, none⟩) 1 s.ic, .int .i64 0, .slice s.dA s.np s.dc, .int .i64 s.size]] w
      fun e w' => e = .returned (.int .i64 (argM s)) ∧ Below w.heap.size w w' := by
  have hca := @World.cell?_alloc_some
  obtain ⟨c0, c1, c2⟩ := h.act
  have ci := h.acts
  rw [Sm.val]
  rcases hp : s.pw with _ | n
  · have e0 : s.np = 0 := by rw [Sm.np, hp]
    have HM := Lib.hid (show argM s = 0 by rw [argM, hp])
    rw [e0] at c1
    clear hp e0 h o
    go_enter Try.func18, Try.ntmps18
    go_wp2
    go_step3
    go_wp2
    go_step3
    go_wp2
    refine wp_loop_rounds 2 ?_
    rw [rounds_succ]
    go_wp2
    refine wp_loop_rounds 1 ?_
    rw [rounds_succ]
    go_wp2
    rw [rounds_succ]
    go_wp2
    try rw [Exit.noGoto_ret]
    go_ret
    exact ⟨by rw [HM.out]; rfl, below2 _ _ _⟩
  · have e0 : s.np = 1 := by rw [Sm.np, hp]
    have hn := o.pw n hp
    have HM := Lib.hid (show (argM s : Int) = n by rw [argM, hp]; simp only; omega)
    rw [e0] at c1
    obtain ⟨g, of, hA, p0, p1⟩ := h.par hp
    rw [hA] at c1
    have hn1 := hn.1
    have hn2 := hn.2
    have hmx : max (0 : Int) n = n := by omega
    clear hp e0 h o hA hn
    go_enter Try.func18, Try.ntmps18
    go_wp2
    go_step3
    go_wp2
    go_step3
    go_wp2
    refine wp_loop_rounds 2 ?_
    rw [rounds_succ]
    go_wp2
    refine wp_loop_rounds 2 ?_
    rw [rounds_succ]
    go_wp2
    rw [rounds_succ]
    go_wp2
    rw [rounds_succ]
    go_wp2
    try rw [Exit.noGoto_ret]
    go_ret
    exact ⟨by rw [HM.out]; rfl, below2 _ _ _⟩

def ceilDiv (n s : Nat) : Nat := (n + s - 1) / s
/-- the blocks that the program's table takes -/
def costM (s : Sm) : Nat × Nat :=
  if s.nk = 0 then (0, 0)
  else if s.kd = 1 then (ceilDiv (s.size.toNat * (8 * s.nk + (8 + argM s))) 4096, 0)
  else (ceilDiv (s.size.toNat * (8 + argM s)) 4096, ceilDiv (s.size.toNat * (8 * s.nk)) 2048)
theorem diag_field (w : World) : (Instr.field 53 (.agg #[.int .i64 0, .int .i64 0, .int .i64 0, .int .i64 0]) 0).run Try.prog w = .ok (.int .i64 0) w := by kernel_rfl

set_option maxRecDepth 100000 in
set_option maxHeartbeats 4000000 in
theorem tableCost_ok (s : Sm) (w : World) (h : SmAt w s) (o : SmOk s) (hk0 : 0 < s.nk) :
    Calls Try.prog 11 #[s.prog.val, .int .i64 0] w fun e w' => e = .returned (.agg #[.int .i64 ((costM s).1 : Int), .int .i64 ((costM s).2 : Int)]) ∧ Below w.heap.size w w' := by
  have HA := Lib.hid h
  have HO := Lib.hid o
  have hfd := diag_field
  obtain ⟨W, hW, hb, hp, hq⟩ := sm_box2 w s 42 #[.int .i64 0, .int .i64 0] 27
  have HB := Lib.hid hb
  have HV := Lib.hid (Sm.val s)
  have HF : Hid ((W.frozen? ⟨w.heap.size + 1, 0, none⟩ = false ∧ W.frozen? ⟨w.heap.size + 1, 1, none⟩ = false) ∧ w.heap.size + 1 < W.heap.size) := Lib.hid (by rw [hW]; exact ⟨⟨by simp, by simp⟩, by simp⟩)
  clear h hb o
  rw [Sm.val]
  go_enter Try.func11, Try.ntmps11
  go_wp2_with fail
  rw [← hW]
  clear hW
  have hk := check_ok s W (HA.out.below HB.out) HO.out
  rw [HV.out] at hk
  refine hk.mono ?_
  clear hk
  rintro e w1 ⟨rfl, hb1⟩
  have HB1 := Lib.hid hb1
  have hB : ∀ w', Below w1.heap.size w1 w' → Below W.heap.size W w' := fun w' h => below_step HB1.out h
  have H1 := Lib.hid (Below.refl w1.heap.size w1)
  have h1v := Below.refl w1.heap.size w1
  have ht : ∀ w', Below w1.heap.size w1 w' → w'.cell? ⟨s.tg, s.tof, none⟩ = some (.string ⟨#[116]⟩) ∧ w'.cell? ⟨s.tg, s.tof + 1, none⟩ = some (.slice s.kA s.nk s.kc) ∧
    w'.cell? ⟨s.tg, s.tof + 2, none⟩ = some (.slice (some ⟨s.ig, s.io, none⟩) 1 s.ic) ∧ w'.cell? ⟨s.tg, s.tof + 3, none⟩ = some (.int .i64 0) ∧ w'.cell? ⟨s.tg, s.tof + 4, none⟩ = some (.slice s.dA s.np s.dc) ∧
    w'.cell? ⟨s.tg, s.tof + 5, none⟩ = some (.int .i64 s.size) := fun w' h => (HA.out.below (below_step HB.out (below_step HB1.out h))).tabs
  go_wp2
  go_region_held3 (fun w' => Below w1.heap.size w1 w') (first | exact H1.out | exact below_drew H1.out | exact below_step (by assumption) (by assumption))
    (first | (go_at_call 17; refine (bits_ok s _ (HA.out.below (below_step HB.out (below_step HB1.out (by assumption)))) HO.out).mono ?_; rintro e w2 ⟨rfl, hb2⟩) | (go_at_call 18; refine (argumentBits_ok s _ (HA.out.below (below_step HB.out (below_step HB1.out (by assumption)))) HO.out).mono ?_; rintro e w2 ⟨rfl, hb2⟩))
  have HB2 : Hid (Below w1.heap.size w1 _) := Lib.hid (by assumption)
  have hsz : ∃ z : Nat, s.size = z ∧ 1 ≤ z ∧ z ≤ 256 := ⟨s.size.toNat, by have := HO.out.lo; omega, by have := HO.out.lo; omega, by have := HO.out.hi; omega⟩
  obtain ⟨z, hz, hz1, hz2⟩ := hsz
  have ha := argM_le HO.out
  have hnk := HO.out.nk
  clear ht h1v
  have hB2 := hB _ HB2.out
  go_wp2_with fail
  refine (kind_ok s _ (HA.out.below (below_step HB.out (below_step HB1.out HB2.out))) HO.out).mono ?_
  rintro e w3 ⟨rfl, hb3⟩
  have HB3 := Lib.hid (below_step HB1.out (below_step HB2.out hb3))
  have hf0 := below_frozen HB3.out HF.out.1.1 HF.out.2
  have hf1 := below_frozen HB3.out HF.out.1.2 HF.out.2
  have hc0 : w3.cell? ⟨w.heap.size + 1, 0, none⟩ = some (.int .i64 0) := hq w3 0 HB3.out (by decide)
  have hc1 : w3.cell? ⟨w.heap.size + 1, 1, none⟩ = some (.int .i64 0) := hq w3 1 HB3.out (by decide)
  clear hb3 hq hp hB hB2 hb1
  rw [hz]
  rcases HO.out.kd with hkd | hkd
  · rw [show kindM s = 1 by rw [kindM, if_neg (by omega)]]
    have HC := Lib.hid (show costM s = (ceilDiv (z * (8 * s.nk + (8 + argM s))) 4096, 0) by rw [costM, if_neg (by omega), if_pos hkd, hz]; rfl)
    generalize argM s = a at *
    generalize hm : z * (8 * s.nk + (8 + a)) = m at *
    have hm2 : m ≤ 1000000 := by
      rw [← hm]
      exact Nat.le_trans (Nat.mul_le_mul hz2 (show 8 * s.nk + (8 + a) ≤ 100 by omega)) (by decide)
    have hm3 : (z : Int) * (8 * (s.nk : Int) + (8 + (a : Int))) = (m : Int) := by rw [← hm]; simp
    go_wp2_with fail
    refine (blocks_any m 4096 _ hm2 (by omega) (by omega)).mono ?_
    rintro e w4 ⟨rfl, rfl⟩
    have hcd : (m + 4096 - 1) / 4096 = ceilDiv m 4096 := rfl
    rw [hcd]
    generalize ceilDiv m 4096 = q at *
    clear hcd hm3
    go_wp2
    refine bodyPost_ret (v := .agg #[.int .i64 (q : Int), .int .i64 0]) (by simp [results, Try.results11, go_sem, hc0, hc1]) rfl ⟨by rw [HC.out]; rfl, ?_⟩
    exact ((below_step HB.out HB3.out).setCell (Nat.le_succ _) _).setCell (Nat.le_succ _) _
  · rw [show kindM s = 3 by rw [kindM, if_pos ⟨hkd, hk0⟩]]
    have HC := Lib.hid (show costM s = (ceilDiv (z * (8 + argM s)) 4096, ceilDiv (z * (8 * s.nk)) 2048) by rw [costM, if_neg (by omega), if_neg (by omega), hz]; rfl)
    generalize argM s = a at *
    generalize hm : z * (8 + a) = m at *
    generalize hk : z * (8 * s.nk) = k at *
    have hm2 : m ≤ 1000000 := by
      rw [← hm]
      exact Nat.le_trans (Nat.mul_le_mul hz2 (show 8 + a ≤ 100 by omega)) (by decide)
    have hk2 : k ≤ 1000000 := by
      rw [← hk]
      exact Nat.le_trans (Nat.mul_le_mul hz2 (show 8 * s.nk ≤ 100 by omega)) (by decide)
    have hm3 : (z : Int) * (8 + (a : Int)) = (m : Int) := by rw [← hm]; simp
    have hk3 : (z : Int) * (8 * (s.nk : Int)) = (k : Int) := by rw [← hk]; simp
    go_wp2_with fail
    refine (blocks_any m 4096 _ hm2 (by omega) (by omega)).mono ?_
    rintro e w4 ⟨rfl, rfl⟩
    have hcd : (m + 4096 - 1) / 4096 = ceilDiv m 4096 := rfl
    rw [hcd]
    generalize ceilDiv m 4096 = q at *
    clear hcd hm3
    go_wp2_with fail
    refine (blocks_any k 2048 _ hk2 (by omega) (by omega)).mono ?_
    rintro e w4 ⟨rfl, rfl⟩
    have hcd : (k + 2048 - 1) / 2048 = ceilDiv k 2048 := rfl
    rw [hcd]
    generalize ceilDiv k 2048 = r at *
    clear hcd hk3
    go_wp2
    refine bodyPost_ret (v := .agg #[.int .i64 (q : Int), .int .i64 (r : Int)]) (by simp [results, Try.results11, go_sem, hc0, hc1]) rfl ⟨by rw [HC.out], ?_⟩
    exact ((below_step HB.out HB3.out).setCell (Nat.le_succ _) _).setCell (Nat.le_succ _) _
end Go.Proofs.Ytgfbikknkcaneaa

