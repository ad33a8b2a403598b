/- Walks of package expr's checks on any program: combine. No condition but the bounds of the widths. -/
import Derived.Test.YtbfjknidinkafaaGreatCkF
namespace Go.Proofs.YtbfjknidinkafaaGreat
open Go.RowKit

set_option maxRecDepth 100000 in
set_option maxHeartbeats 4000000 in
theorem combine_any (op n wd a b c : Int) (w : World) (h1 : 5 ≤ op) (h2 : op ≤ 17) (ha : 0 ≤ a ∧ a ≤ 32) (hb : 0 ≤ b ∧ b ≤ 32) :
    Calls Tryz.prog 218 #[.agg #[.int .i64 op, .int .i64 n, .int .i64 wd], .agg #[.int .i64 a, .int .i64 b, .int .i64 c]] w fun e w' =>
      e = .returned (.tuple #[.int .i64 (combM ⟨op, n, wd⟩ a b c).1, .int .i64 (combM ⟨op, n, wd⟩ a b c).2]) ∧ Below w.heap.size w w' := by
  obtain ⟨ha1, ha2⟩ := ha
  obtain ⟨hb1, hb2⟩ := hb
  have hd : op = 5 ∨ (op = 6 ∨ op = 7) ∨ op = 8 ∨ op = 14 ∨ op = 17 ∨ (op = 9 ∨ op = 10 ∨ op = 11 ∨ op = 12 ∨ op = 13) ∨ op = 15 ∨ op = 16 := by omega
  clear h1 h2
  rcases hd with rfl | h | rfl | rfl | rfl | h | h
  · have HR : Hid (combM ⟨5, n, wd⟩ a b c = (a, 0)) := Lib.hid (by simp [combM, arityM])
    go_enter Tryz.func218, Tryz.ntmps218
    go_wp2_with fail
    refine (arity_any _ _).mono ?_
    rintro e w' ⟨rfl, rfl⟩
    rw [show arityM 5 = 1 from rfl]
    go_wp2
    go_ret2
    exact ⟨ret_pp HR.out, below2 _ _ _⟩
  · by_cases k : n < 0 ∨ 31 < n
    · have HR : Hid (combM ⟨op, n, wd⟩ a b c = (0, 9)) := Lib.hid (by simp [combM, h, k])
      rcases h with rfl | rfl
      all_goals
        rcases k with k | k
        all_goals
          go_enter Tryz.func218, Tryz.ntmps218
          go_wp2
          go_ret2
          exact ⟨ret_pp HR.out, below2 _ _ _⟩
    · have HR : Hid (combM ⟨op, n, wd⟩ a b c = (a, 0)) := Lib.hid (by simp [combM, h, k])
      obtain ⟨k1, k2⟩ : 0 ≤ n ∧ n ≤ 31 := by omega
      clear k
      rcases h with rfl | rfl
      all_goals
        go_enter Tryz.func218, Tryz.ntmps218
        go_wp2_with fail
        refine (arity_any _ _).mono ?_
        rintro e w' ⟨rfl, rfl⟩
        first | rw [show arityM 6 = 1 from rfl] | rw [show arityM 7 = 1 from rfl]
        go_wp2
        go_ret2
        exact ⟨ret_pp HR.out, below2 _ _ _⟩
  · by_cases k : n < 0
    · have HR : Hid (combM ⟨8, n, wd⟩ a b c = (0, 9)) := Lib.hid (by simp [combM, k])
      go_enter Tryz.func218, Tryz.ntmps218
      go_wp2
      go_ret2
      exact ⟨ret_pp HR.out, below2 _ _ _⟩
    · cases hv : okW wd
      · have HR : Hid (combM ⟨8, n, wd⟩ a b c = (0, 10)) := Lib.hid (by simp [combM, k, hv])
        go_enter Tryz.func218, Tryz.ntmps218
        go_wp2_with fail
        refine (wide_any _ _).mono ?_
        rintro e w' ⟨rfl, rfl⟩
        rw [wideM_bad hv]
        go_wp2
        go_ret2
        exact ⟨ret_pp HR.out, below2 _ _ _⟩
      · obtain ⟨w1, w2⟩ := okW_iff.1 hv
        by_cases k2 : a - wd < n
        · have HR : Hid (combM ⟨8, n, wd⟩ a b c = (0, 10)) := Lib.hid (by simp [combM, k, k2])
          go_enter Tryz.func218, Tryz.ntmps218
          go_wp2_with fail
          refine (wide_any _ _).mono ?_
          rintro e w' ⟨rfl, rfl⟩
          rw [wideM_ok hv]
          go_wp2
          go_ret2
          exact ⟨ret_pp HR.out, below2 _ _ _⟩
        · have HR : Hid (combM ⟨8, n, wd⟩ a b c = (wd, 0)) := Lib.hid (by simp [combM, k, k2, hv])
          go_enter Tryz.func218, Tryz.ntmps218
          go_wp2_with fail
          refine (wide_any _ _).mono ?_
          rintro e w' ⟨rfl, rfl⟩
          rw [wideM_ok hv]
          go_wp2
          go_ret2
          exact ⟨ret_pp HR.out, below2 _ _ _⟩
  · have HR : Hid (combM ⟨14, n, wd⟩ a b c = wideM (a + b)) := Lib.hid (by simp [combM])
    go_enter Tryz.func218, Tryz.ntmps218
    go_wp2_with fail
    refine (wide_any _ _).mono ?_
    rintro e w' ⟨rfl, rfl⟩
    go_wp2
    go_ret2
    exact ⟨ret_pp HR.out, below2 _ _ _⟩
  · by_cases k : a = 1
    · by_cases k2 : b = c
      · have HR : Hid (combM ⟨17, n, wd⟩ a b c = (b, 0)) := Lib.hid (by simp [combM, k, k2])
        subst k k2
        go_enter Tryz.func218, Tryz.ntmps218
        go_wp2
        go_ret2
        exact ⟨ret_pp HR.out, below2 _ _ _⟩
      · have HR : Hid (combM ⟨17, n, wd⟩ a b c = (0, 10)) := Lib.hid (by simp [combM, k, k2])
        have k2' : (b == c) = false := beq_eq_false_iff_ne.2 k2
        subst k
        go_enter Tryz.func218, Tryz.ntmps218
        go_wp2
        go_ret2
        exact ⟨ret_pp HR.out, below2 _ _ _⟩
    · have HR : Hid (combM ⟨17, n, wd⟩ a b c = (0, 10)) := Lib.hid (by simp [combM, k])
      have k' : (a == 1) = false := beq_eq_false_iff_ne.2 k
      go_enter Tryz.func218, Tryz.ntmps218
      go_wp2
      go_ret2
      exact ⟨ret_pp HR.out, below2 _ _ _⟩
  · have ho : arityM op = 2 := by unfold arityM; repeat' split <;> omega
    have h' : op ≠ 6 ∧ op ≠ 7 ∧ op ≠ 8 ∧ op ≠ 14 ∧ op ≠ 17 ∧ op ≠ 15 ∧ op ≠ 16 := by omega
    obtain ⟨n6, n7, n8, n14, n17, n15, n16⟩ := h'
    by_cases k : a = b
    · have HR : Hid (combM ⟨op, n, wd⟩ a b c = (a, 0)) := Lib.hid (by simp [combM, n6, n7, n8, n14, n17, n15, n16, k])
      clear n6 n7 n8 n14 n17 n15 n16
      subst k
      rcases h with rfl | rfl | rfl | rfl | rfl
      all_goals
        go_enter Tryz.func218, Tryz.ntmps218
        go_wp2_with fail
        refine (arity_any _ _).mono ?_
        rintro e w' ⟨rfl, rfl⟩
        rw [ho]
        go_wp2
        go_ret2
        exact ⟨ret_pp HR.out, below2 _ _ _⟩
    · have HR : Hid (combM ⟨op, n, wd⟩ a b c = (0, 10)) := Lib.hid (by simp [combM, n6, n7, n8, n14, n17, ho, k])
      have k' : (a == b) = false := beq_eq_false_iff_ne.2 k
      clear n6 n7 n8 n14 n17 n15 n16
      rcases h with rfl | rfl | rfl | rfl | rfl
      all_goals
        go_enter Tryz.func218, Tryz.ntmps218
        go_wp2_with fail
        refine (arity_any _ _).mono ?_
        rintro e w' ⟨rfl, rfl⟩
        rw [ho]
        go_wp2
        go_ret2
        exact ⟨ret_pp HR.out, below2 _ _ _⟩
  · have ho : arityM op = 2 := by unfold arityM; repeat' split <;> omega
    have h' : op ≠ 6 ∧ op ≠ 7 ∧ op ≠ 8 ∧ op ≠ 14 ∧ op ≠ 17 := by omega
    obtain ⟨n6, n7, n8, n14, n17⟩ := h'
    by_cases k : a = b
    · have HR : Hid (combM ⟨op, n, wd⟩ a b c = (1, 0)) := Lib.hid (by simp [combM, n6, n7, n8, n14, n17, h, k])
      clear n6 n7 n8 n14 n17
      subst k
      rcases h with rfl | rfl
      all_goals
        go_enter Tryz.func218, Tryz.ntmps218
        go_wp2_with fail
        refine (arity_any _ _).mono ?_
        rintro e w' ⟨rfl, rfl⟩
        rw [ho]
        go_wp2
        go_ret2
        exact ⟨ret_pp HR.out, below2 _ _ _⟩
    · have HR : Hid (combM ⟨op, n, wd⟩ a b c = (0, 10)) := Lib.hid (by simp [combM, n6, n7, n8, n14, n17, ho, k])
      have k' : (a == b) = false := beq_eq_false_iff_ne.2 k
      clear n6 n7 n8 n14 n17
      rcases h with rfl | rfl
      all_goals
        go_enter Tryz.func218, Tryz.ntmps218
        go_wp2_with fail
        refine (arity_any _ _).mono ?_
        rintro e w' ⟨rfl, rfl⟩
        rw [ho]
        go_wp2
        go_ret2
        exact ⟨ret_pp HR.out, below2 _ _ _⟩
end Go.Proofs.YtbfjknidinkafaaGreat

