/- Walks of the reference's numbers: widths, powers, masks, fits. No condition. -/
import Derived.Test.YtbfjknidinkafaaGreatCkE
namespace Go.Proofs.YtbfjknidinkafaaGreat
open Go.RowKit

theorem rvalid_any (n : Int) (w : World) :
    Calls Tryz.prog 154 #[.int .i64 n] w fun e w' => e = .returned (.bool (okW n)) ∧ w = w' := by
  by_cases h1 : 1 ≤ n
  · have HR := Lib.hid (show okW n = decide (n ≤ 32) by simp [okW, h1])
    by_cases h2 : n ≤ 32
    all_goals
      go_enter Tryz.func154, Tryz.ntmps154
      go_wp2
      go_ret
      exact ⟨by rw [HR.out]; simp [h2], rfl⟩
  · have HR := Lib.hid (show okW n = false by simp [okW, h1])
    go_enter Tryz.func154, Tryz.ntmps154
    go_wp2
    go_ret
    exact ⟨by rw [HR.out]; rfl, rfl⟩
theorem pow_le40 {k : Nat} (h : k ≤ 40) : 2 ^ k ≤ 1099511627776 := Nat.pow_le_pow_right (by decide) h
theorem rpower_any (n : Nat) (hn : n ≤ 40) (w : World) :
    Calls Tryz.prog 155 #[.int .i64 n] w fun e w' => e = .returned (.int .u64 ((2 ^ n : Nat) : Int)) ∧ w = w' := by
  go_enter Tryz.func155, Tryz.ntmps155
  go_wp2
  go_loop [3, 4] (fun v i => ∃ k x : Nat, k ≤ n ∧ i = .int .i64 k ∧ v = .int .u64 x ∧ Hid (x = 2 ^ k)) (fun _ i => n - (intOf i).toNat)
  case atStart => exact ⟨0, 1, Nat.zero_le _, rfl, rfl, Lib.hid rfl⟩
  case round =>
  obtain ⟨k, x, hk, rfl, rfl, hx⟩ := hrel
  by_cases hlt : k < n
  · have HX : Hid (2 * x = 2 ^ (k + 1) ∧ 2 * x ≤ 1099511627776) := Lib.hid (by
      have h1 : 2 * x = 2 ^ (k + 1) := by rw [hx.out, Nat.pow_succ, Nat.mul_comm]
      exact ⟨h1, by rw [h1]; exact pow_le40 (by omega)⟩)
    go_wp2
    go_round
    case rel => exact ⟨k + 1, 2 * x, by omega, by go_num, by
      have h2 := HX.out.2
      refine congrArg (Value.int .u64) ?_
      rw [IntWalk.u64_in _ (by omega)]; rfl, Lib.hid HX.out.1⟩
    case measure => simp [intOf]; omega
  · have e : k = n := by omega
    subst e
    go_wp2
    go_ret
    exact ⟨by rw [hx.out]; simp, rfl⟩
theorem rmask_any (n : Int) (w : World) :
    Calls Tryz.prog 105 #[.int .i64 n] w fun e w' => e = .returned (.int .u32 (maskM n)) ∧ w = w' := by
  cases hv : okW n
  · have HM := Lib.hid (show maskM n = 0 by rw [maskM, hv]; rfl)
    have HV := Lib.hid hv
    clear hv
    go_enter Tryz.func105, Tryz.ntmps105
    go_wp2_with fail
    refine (rvalid_any n _).mono ?_
    rintro e w1 ⟨rfl, rfl⟩
    rw [HV.out]
    go_wp2
    go_ret
    exact ⟨by rw [HM.out]; rfl, rfl⟩
  · have HV := Lib.hid hv
    have hr : 1 ≤ n ∧ n ≤ 32 := okW_iff.1 hv
    obtain ⟨m, rfl⟩ : ∃ m : Nat, n = m := ⟨n.toNat, by omega⟩
    have HR := Lib.hid hr
    have HM : Hid (IntKind.u32.wrap (((2 ^ m : Nat) : Int) - 1) = (maskM m : Int)) := Lib.hid (by
      have h1 : maskM (m : Int) = 2 ^ m - 1 := by rw [maskM, hv]; rfl
      have h2 : 2 ^ m ≤ 2 ^ 32 := Nat.pow_le_pow_right (by decide) (by omega)
      have h3 : 0 < 2 ^ m := Nat.pow_pos (by decide)
      rw [h1, IntWalk.u32_in _ (by omega)]
      omega)
    have HP : Hid ((2 ^ m : Nat) ≤ 4294967296 ∧ 0 < 2 ^ m) := Lib.hid ⟨Nat.pow_le_pow_right (n := 2) (by decide) (show m ≤ 32 by omega), Nat.pow_pos (by decide)⟩
    clear hv hr
    go_enter Tryz.func105, Tryz.ntmps105
    go_wp2_with fail
    refine (rvalid_any m _).mono ?_
    rintro e w1 ⟨rfl, rfl⟩
    rw [HV.out]
    go_wp2_with fail
    refine (rpower_any m (by have := HR.out; omega) _).mono ?_
    rintro e w1 ⟨rfl, rfl⟩
    generalize hX : 2 ^ m = X at *
    have hX1 : 0 < (X : Int) := by have := HP.out; omega
    have hX2 : (X : Int) ≤ 4294967296 := by have := HP.out; omega
    clear hX
    go_wp2
    go_ret
    exact ⟨by rw [← HM.out, IntWalk.u32_in _ (by omega)]; rfl, rfl⟩
theorem pow_okW {n : Int} (hv : okW n = true) : ∃ m : Nat, n = m ∧ 1 ≤ m ∧ m ≤ 32 ∧ maskM n = 2 ^ m - 1 := by
  have hr := okW_iff.1 hv
  refine ⟨n.toNat, by omega, by omega, by omega, by rw [maskM, hv]; rfl⟩
theorem rfits_any (v n : Int) (hw : (Lit.int .u32 v).wf = true) (w : World) :
    Calls Tryz.prog 208 #[.int .u32 v, .int .i64 n] w fun e w' => e = .returned (.bool (fitsM v n)) ∧ w = w' := by
  have hv0 : 0 ≤ v ∧ v ≤ 4294967295 := by
    have e1 : IntKind.u32.min = 0 := rfl
    have e2 : IntKind.u32.max = 4294967295 := rfl
    simp only [Lit.wf, Bool.and_eq_true, decide_eq_true_eq] at hw
    omega
  clear hw
  cases hv : okW n
  · have HM := Lib.hid (show fitsM v n = false by rw [fitsM, hv]; rfl)
    have HV := Lib.hid hv
    clear hv
    go_enter Tryz.func208, Tryz.ntmps208
    go_upto_region 1 with fail
    go_wp2_with fail
    refine (rvalid_any n _).mono ?_
    rintro e w1 ⟨rfl, rfl⟩
    rw [HV.out]
    go_wp2
    go_ret
    exact ⟨by rw [HM.out]; rfl, rfl⟩
  · obtain ⟨m, rfl, h1, h2, h3⟩ := pow_okW hv
    have HM : Hid (fitsM v m = decide (v < ((2 ^ m : Nat) : Int))) := Lib.hid (by
      have h4 : 0 < 2 ^ m := Nat.pow_pos (by decide)
      rw [fitsM, hv, h3, Bool.true_and]
      exact decide_eq_decide.2 (by omega))
    have HV := Lib.hid hv
    clear hv h3
    go_enter Tryz.func208, Tryz.ntmps208
    go_wp2_with fail
    refine (rvalid_any m _).mono ?_
    rintro e w1 ⟨rfl, rfl⟩
    rw [HV.out]
    go_wp2_with fail
    refine (rpower_any m (by omega) _).mono ?_
    rintro e w1 ⟨rfl, rfl⟩
    generalize 2 ^ m = X at *
    go_wp2
    go_ret
    exact ⟨by rw [HM.out]; rfl, rfl⟩
theorem rfits12_any (v : Int) (n : Nat) (hn : n ≤ 32) (hw : (Lit.int .u32 v).wf = true) (w : World) :
    Calls Tryz.prog 79 #[.int .u32 v, .int .i64 n] w fun e w' => e = .returned (.bool (decide (v < ((2 ^ n : Nat) : Int)))) ∧ w = w' := by
  have hv0 : 0 ≤ v ∧ v ≤ 4294967295 := by
    have e1 : IntKind.u32.min = 0 := rfl
    have e2 : IntKind.u32.max = 4294967295 := rfl
    simp only [Lit.wf, Bool.and_eq_true, decide_eq_true_eq] at hw
    omega
  clear hw
  go_enter Tryz.func79, Tryz.ntmps79
  go_wp2
  go_loop [5, 6] (fun v i => ∃ k x : Nat, k ≤ n ∧ i = .int .i64 k ∧ v = .int .u64 x ∧ Hid (x = 2 ^ k)) (fun _ i => n - (intOf i).toNat)
  case atStart => exact ⟨0, 1, Nat.zero_le _, rfl, rfl, Lib.hid rfl⟩
  case round =>
  obtain ⟨k, x, hk, rfl, rfl, hx⟩ := hrel
  by_cases hlt : k < n
  · have HX : Hid (2 * x = 2 ^ (k + 1) ∧ 2 * x ≤ 1099511627776) := Lib.hid (by
      have h1 : 2 * x = 2 ^ (k + 1) := by rw [hx.out, Nat.pow_succ, Nat.mul_comm]
      exact ⟨h1, by rw [h1]; exact pow_le40 (by omega)⟩)
    go_wp2
    go_round
    case rel => exact ⟨k + 1, 2 * x, by omega, by go_num, by
      have h2 := HX.out.2
      refine congrArg (Value.int .u64) ?_
      rw [IntWalk.u64_in _ (by omega)]; rfl, Lib.hid HX.out.1⟩
    case measure => simp [intOf]; omega
  · have e : k = n := by omega
    subst e
    go_wp2
    go_ret
    have h := hx.out
    subst h
    exact ⟨by simp, rfl⟩
theorem fits12_eq {v n : Int} (hv : okW n = true) : fitsM v n = decide (v < ((2 ^ n.toNat : Nat) : Int)) := by
  obtain ⟨m, rfl, h1, h2, h3⟩ := pow_okW hv
  have h4 : 0 < 2 ^ m := Nat.pow_pos (by decide)
  rw [fitsM, hv, h3, Bool.true_and, Int.toNat_natCast]
  exact decide_eq_decide.2 (by omega)
end Go.Proofs.YtbfjknidinkafaaGreat

