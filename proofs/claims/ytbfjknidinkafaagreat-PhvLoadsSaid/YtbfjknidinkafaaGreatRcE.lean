/- The walk of the reference's operator. No condition but the bounds of the widths. -/
import Derived.Test.YtbfjknidinkafaaGreatRcD
namespace Go.Proofs.YtbfjknidinkafaaGreat
open Go.RowKit

theorem ints1 {w : World} {A : Option Addr} {c : Nat} {a : Int} (h : LOk w 1 icell ⟨[a], A, c⟩) : ∃ g o, A = some ⟨g, o, none⟩ ∧ ∀ w', Below w.heap.size w w' → w'.cell? ⟨g, o, none⟩ = some (.int .i64 a) := by
  obtain ⟨g, o, e, hq⟩ := icell_allA h (by simp)
  exact ⟨g, o, e, fun w' hb => hq w' hb 0 (by simp)⟩
theorem ints2 {w : World} {A : Option Addr} {c : Nat} {a b : Int} (h : LOk w 1 icell ⟨[a, b], A, c⟩) : ∃ g o, A = some ⟨g, o, none⟩ ∧ ∀ w', Below w.heap.size w w' → w'.cell? ⟨g, o, none⟩ = some (.int .i64 a) ∧ w'.cell? ⟨g, o + 1, none⟩ = some (.int .i64 b) := by
  obtain ⟨g, o, e, hq⟩ := icell_allA h (by simp)
  exact ⟨g, o, e, fun w' hb => ⟨hq w' hb 0 (by simp), hq w' hb 1 (by simp)⟩⟩
theorem ints3 {w : World} {A : Option Addr} {c : Nat} {a b d : Int} (h : LOk w 1 icell ⟨[a, b, d], A, c⟩) : ∃ g o, A = some ⟨g, o, none⟩ ∧ ∀ w', Below w.heap.size w w' → w'.cell? ⟨g, o, none⟩ = some (.int .i64 a) ∧ w'.cell? ⟨g, o + 1, none⟩ = some (.int .i64 b) ∧ w'.cell? ⟨g, o + 2, none⟩ = some (.int .i64 d) := by
  obtain ⟨g, o, e, hq⟩ := icell_allA h (by simp)
  exact ⟨g, o, e, fun w' hb => ⟨hq w' hb 0 (by simp), hq w' hb 1 (by simp), hq w' hb 2 (by simp)⟩⟩
set_option maxRecDepth 100000 in
set_option maxHeartbeats 4000000 in
theorem roper1_any (op n wd a : Int) (A : Option Addr) (c : Nat) (w : World) (hop : 5 ≤ op ∧ op ≤ 8) (ha : 0 ≤ a ∧ a ≤ 32) (hok : LOk w 1 icell ⟨[a], A, c⟩) :
    Calls Tryz.prog 215 #[.agg #[.int .i64 op, .int .i64 n, .int .i64 wd], .slice A 1 c] w fun e w' =>
      e = .returned (.tuple #[.int .i64 (combM ⟨op, n, wd⟩ a 0 0).1, .int .i64 (combM ⟨op, n, wd⟩ a 0 0).2]) ∧ Below w.heap.size w w' := by
  obtain ⟨W, hW, hw, HB, hp⟩ := box1 w #[.int .i64 op, .int .i64 n, .int .i64 wd] 252
  have HW := Lib.hid hw
  obtain ⟨g, o, rfl, hq⟩ := ints1 (hok.below hw (Nat.le_refl _))
  clear hok hw
  have hq0 := hq _ HB
  have hp0 := hp _ HB
  obtain ⟨ha1, ha2⟩ := ha
  have hd : op = 5 ∨ (op = 6 ∨ op = 7) ∨ op = 8 := by omega
  clear hop
  rcases hd with rfl | h | rfl
  · have HR : Hid (combM ⟨5, n, wd⟩ a 0 0 = (a, 0)) := Lib.hid (by simp [combM, arityM])
    go_enter Tryz.func215, Tryz.ntmps215
    go_upto_region 1 with fail
    rw [← hW]
    clear hW
    go_wp2
    go_ret2
    exact ⟨ret_pp HR.out, below_step HW.out (by first | exact HB | exact below_drewN HB _)⟩
  · by_cases k : n < 0
    · have HR : Hid (combM ⟨op, n, wd⟩ a 0 0 = (0, 9)) := Lib.hid (by simp [combM, h, k])
      rcases h with rfl | rfl
      all_goals
        go_enter Tryz.func215, Tryz.ntmps215
        go_upto_region 1 with fail
        rw [← hW]
        clear hW
        go_wp2
        go_ret2
        exact ⟨ret_pp HR.out, below_step HW.out (by first | exact HB | exact below_drewN HB _)⟩
    by_cases k2 : 31 < n
    · have HR : Hid (combM ⟨op, n, wd⟩ a 0 0 = (0, 9)) := Lib.hid (by simp [combM, h, k2])
      rcases h with rfl | rfl
      all_goals
        go_enter Tryz.func215, Tryz.ntmps215
        go_upto_region 1 with fail
        rw [← hW]
        clear hW
        go_wp2
        go_ret2
        exact ⟨ret_pp HR.out, below_step HW.out (by first | exact HB | exact below_drewN HB _)⟩
    · have HR : Hid (combM ⟨op, n, wd⟩ a 0 0 = (a, 0)) := Lib.hid (by simp only [combM, if_pos h]; rw [if_neg (by omega)])
      rcases h with rfl | rfl
      all_goals
        go_enter Tryz.func215, Tryz.ntmps215
        go_upto_region 1 with fail
        rw [← hW]
        clear hW
        go_wp2
        go_ret2
        exact ⟨ret_pp HR.out, below_step HW.out (by first | exact HB | exact below_drewN HB _)⟩
  · by_cases k : n < 0
    · have HR : Hid (combM ⟨8, n, wd⟩ a 0 0 = (0, 9)) := Lib.hid (by simp [combM, k])
      go_enter Tryz.func215, Tryz.ntmps215
      go_upto_region 1 with fail
      rw [← hW]
      clear hW
      go_wp2
      go_ret2
      exact ⟨ret_pp HR.out, below_step HW.out (by first | exact HB | exact below_drewN HB _)⟩
    have k' : 0 ≤ n := by omega
    by_cases k1 : wd < 1
    · have k1' : decide (wd < 1) = true := decide_eq_true k1
      have HR : Hid (combM ⟨8, n, wd⟩ a 0 0 = (0, 10)) := Lib.hid (by simp [combM, k, okW_not.2 (.inl k1)])
      go_enter Tryz.func215, Tryz.ntmps215
      go_upto_region 1 with fail
      rw [← hW]
      clear hW
      go_wp2
      go_quiet (fail)
      go_wp2
      go_ret2
      exact ⟨ret_pp HR.out, below_step HW.out (by first | exact HB | exact below_drewN HB _)⟩
    have k1' : decide (wd < 1) = false := decide_eq_false k1
    by_cases k2 : 32 < wd
    · have k2' : decide (32 < wd) = true := decide_eq_true k2
      have HR : Hid (combM ⟨8, n, wd⟩ a 0 0 = (0, 10)) := Lib.hid (by simp [combM, k, okW_not.2 (.inr k2)])
      go_enter Tryz.func215, Tryz.ntmps215
      go_upto_region 1 with fail
      rw [← hW]
      clear hW
      go_wp2
      go_quiet (fail)
      go_wp2
      go_ret2
      exact ⟨ret_pp HR.out, below_step HW.out (by first | exact HB | exact below_drewN HB _)⟩
    have k2' : decide (32 < wd) = false := decide_eq_false k2
    have hv : okW wd = true := okW_iff.2 ⟨by omega, by omega⟩
    have hwr : IntKind.i64.wrap (a - wd) = a - wd := IntWalk.i64_in _ (by omega)
    by_cases k3 : a - wd < n
    · have HR : Hid (combM ⟨8, n, wd⟩ a 0 0 = (0, 10)) := Lib.hid (by simp [combM, k, k3])
      clear hv
      go_enter Tryz.func215, Tryz.ntmps215
      go_upto_region 1 with fail
      rw [← hW]
      clear hW
      go_wp2
      go_quiet (fail)
      go_wp2
      go_ret2
      exact ⟨ret_pp HR.out, below_step HW.out (by first | exact HB | exact below_drewN HB _)⟩
    · have HR : Hid (combM ⟨8, n, wd⟩ a 0 0 = (wd, 0)) := Lib.hid (by simp [combM, k, k3, hv])
      clear hv
      go_enter Tryz.func215, Tryz.ntmps215
      go_upto_region 1 with fail
      rw [← hW]
      clear hW
      go_wp2
      go_quiet (fail)
      go_wp2
      go_ret2
      exact ⟨ret_pp HR.out, below_step HW.out (by first | exact HB | exact below_drewN HB _)⟩
set_option maxRecDepth 100000 in
set_option maxHeartbeats 4000000 in
theorem roper2_any (op n wd a b : Int) (A : Option Addr) (c : Nat) (w : World) (hop : 9 ≤ op ∧ op ≤ 16) (ha : 0 ≤ a ∧ a ≤ 32) (hb : 0 ≤ b ∧ b ≤ 32) (hok : LOk w 1 icell ⟨[a, b], A, c⟩) :
    Calls Tryz.prog 215 #[.agg #[.int .i64 op, .int .i64 n, .int .i64 wd], .slice A 2 c] w fun e w' =>
      e = .returned (.tuple #[.int .i64 (combM ⟨op, n, wd⟩ a b 0).1, .int .i64 (combM ⟨op, n, wd⟩ a b 0).2]) ∧ Below w.heap.size w w' := by
  obtain ⟨W, hW, hw, HB, hp⟩ := box1 w #[.int .i64 op, .int .i64 n, .int .i64 wd] 252
  have HW := Lib.hid hw
  obtain ⟨g, o, rfl, hq⟩ := ints2 (hok.below hw (Nat.le_refl _))
  clear hok hw
  have hq0 := hq _ HB
  have hp0 := hp _ HB
  obtain ⟨ha1, ha2⟩ := ha
  obtain ⟨hb1, hb2⟩ := hb
  have hd : op = 14 ∨ (op = 9 ∨ op = 10 ∨ op = 11 ∨ op = 12 ∨ op = 13) ∨ op = 15 ∨ op = 16 := by omega
  clear hop
  rcases hd with rfl | h | h
  · have HR : Hid (combM ⟨14, n, wd⟩ a b 0 = wideM (a + b)) := Lib.hid (by simp [combM])
    have hwr : IntKind.i64.wrap (a + b) = a + b := IntWalk.i64_in _ (by omega)
    have H0 := Lib.hid HB
    clear HB hq0 hp0
    go_enter Tryz.func215, Tryz.ntmps215
    go_upto_region 1 with fail
    rw [← hW]
    clear hW
    have hp0 := hp _ H0.out
    go_upto_region 16 with fail
    clear hp0
    go_region_held3 (fun w' => Below W.heap.size W w') (first | exact H0.out | exact below_drew H0.out | (exact below_step (by assumption) (by assumption)) | assumption)
      (first | (go_at_call 219; refine (rwide_any (a + b) _).mono ?_; rintro e w1 ⟨rfl, rfl⟩))
    have HB5 : Hid (Below W.heap.size W _) := Lib.hid (by assumption)
    go_wp2
    go_ret2
    exact ⟨ret_pp HR.out, below_step HW.out HB5.out⟩
  · have ho : arityM op = 2 := by unfold arityM; repeat' split <;> omega
    have h' : op ≠ 6 ∧ op ≠ 7 ∧ op ≠ 8 ∧ op ≠ 14 ∧ op ≠ 17 ∧ op ≠ 15 ∧ op ≠ 16 := by omega
    obtain ⟨n6, n7, n8, n14, n17, n15, n16⟩ := h'
    by_cases k : a = b
    · have HR : Hid (combM ⟨op, n, wd⟩ a b 0 = (a, 0)) := Lib.hid (by simp [combM, n6, n7, n8, n14, n17, n15, n16, k])
      clear n6 n7 n8 n14 n17 n15 n16 ho
      subst k
      rcases h with rfl | rfl | rfl | rfl | rfl
      all_goals
        go_enter Tryz.func215, Tryz.ntmps215
        go_upto_region 1 with fail
        rw [← hW]
        clear hW
        go_wp2
        go_quiet (fail)
        go_wp2
        go_ret2
        exact ⟨ret_pp HR.out, below_step HW.out (by first | exact HB | exact below_drewN HB _)⟩
    · have HR : Hid (combM ⟨op, n, wd⟩ a b 0 = (0, 10)) := Lib.hid (by simp [combM, n6, n7, n8, n14, n17, ho, k])
      have k' : (a == b) = false := beq_eq_false_iff_ne.2 k
      clear n6 n7 n8 n14 n17 n15 n16 ho
      rcases h with rfl | rfl | rfl | rfl | rfl
      all_goals
        go_enter Tryz.func215, Tryz.ntmps215
        go_upto_region 1 with fail
        rw [← hW]
        clear hW
        go_wp2
        go_quiet (fail)
        go_wp2
        go_ret2
        exact ⟨ret_pp HR.out, below_step HW.out (by first | exact HB | exact below_drewN HB _)⟩
  · have ho : arityM op = 2 := by unfold arityM; repeat' split <;> omega
    have h' : op ≠ 6 ∧ op ≠ 7 ∧ op ≠ 8 ∧ op ≠ 14 ∧ op ≠ 17 := by omega
    obtain ⟨n6, n7, n8, n14, n17⟩ := h'
    by_cases k : a = b
    · have HR : Hid (combM ⟨op, n, wd⟩ a b 0 = (1, 0)) := Lib.hid (by simp [combM, n6, n7, n8, n14, n17, h, k])
      clear n6 n7 n8 n14 n17 ho
      subst k
      rcases h with rfl | rfl
      all_goals
        go_enter Tryz.func215, Tryz.ntmps215
        go_upto_region 1 with fail
        rw [← hW]
        clear hW
        go_wp2
        go_quiet (fail)
        go_wp2
        go_ret2
        exact ⟨ret_pp HR.out, below_step HW.out (by first | exact HB | exact below_drewN HB _)⟩
    · have HR : Hid (combM ⟨op, n, wd⟩ a b 0 = (0, 10)) := Lib.hid (by simp [combM, n6, n7, n8, n14, n17, ho, k])
      have k' : (a == b) = false := beq_eq_false_iff_ne.2 k
      clear n6 n7 n8 n14 n17 ho
      rcases h with rfl | rfl
      all_goals
        go_enter Tryz.func215, Tryz.ntmps215
        go_upto_region 1 with fail
        rw [← hW]
        clear hW
        go_wp2
        go_quiet (fail)
        go_wp2
        go_ret2
        exact ⟨ret_pp HR.out, below_step HW.out (by first | exact HB | exact below_drewN HB _)⟩
set_option maxRecDepth 100000 in
set_option maxHeartbeats 4000000 in
theorem roper3_any (op n wd a b d : Int) (A : Option Addr) (c : Nat) (w : World) (hop : op = 17) (ha : 0 ≤ a ∧ a ≤ 32) (hb : 0 ≤ b ∧ b ≤ 32) (hd : 0 ≤ d ∧ d ≤ 32) (hok : LOk w 1 icell ⟨[a, b, d], A, c⟩) :
    Calls Tryz.prog 215 #[.agg #[.int .i64 op, .int .i64 n, .int .i64 wd], .slice A 3 c] w fun e w' =>
      e = .returned (.tuple #[.int .i64 (combM ⟨op, n, wd⟩ a b d).1, .int .i64 (combM ⟨op, n, wd⟩ a b d).2]) ∧ Below w.heap.size w w' := by
  obtain ⟨W, hW, hw, HB, hp⟩ := box1 w #[.int .i64 op, .int .i64 n, .int .i64 wd] 252
  have HW := Lib.hid hw
  obtain ⟨g, o, rfl, hq⟩ := ints3 (hok.below hw (Nat.le_refl _))
  clear hok hw
  have hq0 := hq _ HB
  have hp0 := hp _ HB
  obtain ⟨ha1, ha2⟩ := ha
  obtain ⟨hb1, hb2⟩ := hb
  obtain ⟨hd1, hd2⟩ := hd
  subst hop
  by_cases k : a = 1
  · by_cases k2 : b = d
    · have HR : Hid (combM ⟨17, n, wd⟩ a b d = (b, 0)) := Lib.hid (by simp [combM, k, k2])
      subst k k2
      go_enter Tryz.func215, Tryz.ntmps215
      go_upto_region 1 with fail
      rw [← hW]
      clear hW
      go_wp2
      go_quiet (fail)
      go_wp2
      go_ret2
      exact ⟨ret_pp HR.out, below_step HW.out (by first | exact HB | exact below_drewN HB _)⟩
    · have HR : Hid (combM ⟨17, n, wd⟩ a b d = (0, 10)) := Lib.hid (by simp [combM, k, k2])
      have k2' : (b == d) = false := beq_eq_false_iff_ne.2 k2
      subst k
      go_enter Tryz.func215, Tryz.ntmps215
      go_upto_region 1 with fail
      rw [← hW]
      clear hW
      go_wp2
      go_quiet (fail)
      go_wp2
      go_ret2
      exact ⟨ret_pp HR.out, below_step HW.out (by first | exact HB | exact below_drewN HB _)⟩
  · have HR : Hid (combM ⟨17, n, wd⟩ a b d = (0, 10)) := Lib.hid (by simp [combM, k])
    have k' : (a == 1) = false := beq_eq_false_iff_ne.2 k
    go_enter Tryz.func215, Tryz.ntmps215
    go_upto_region 1 with fail
    rw [← hW]
    clear hW
    go_wp2
    go_quiet (fail)
    go_wp2
    go_ret2
    exact ⟨ret_pp HR.out, below_step HW.out (by first | exact HB | exact below_drewN HB _)⟩
end Go.Proofs.YtbfjknidinkafaaGreat

