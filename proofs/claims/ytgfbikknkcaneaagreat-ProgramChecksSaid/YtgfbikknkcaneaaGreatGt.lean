/- Walks of the reference's numbers: widths, powers, masks, fits. No condition. Walks of the reference on fields and operators: Arity, wide, Declared, Width. No condition but that the program lies in memory. Walks of the reference's widths of fields. No condition but that the program lies in memory. The walk of the reference's leaf. No condition but that the program lies in memory. -/
import Derived.Test.YtgfbikknkcaneaaGreatCkE
import Derived.Test.YtgfbikknkcaneaaGreatCkF
import Derived.BigQuiet
import Derived.Deep.RegionHeld3
namespace Go.Proofs.YtgfbikknkcaneaaGreat
open Go.RowKit

theorem rvalid_any (n : Int) (w : World) :
    Calls Tryz.prog 216 #[.int .i64 n] w fun e w' => e = .returned (.bool (okW n)) ∧ w = w' := by
  by_cases h1 : 1 ≤ n
  · have HR := Lib.hid (show okW n = decide (n ≤ 32) by simp [okW, h1])
    by_cases h2 : n ≤ 32
    all_goals
      go_enter Tryz.func216, Tryz.ntmps216
      go_wp2
      go_ret
      exact ⟨by rw [HR.out]; simp [h2], rfl⟩
  · have HR := Lib.hid (show okW n = false by simp [okW, h1])
    go_enter Tryz.func216, Tryz.ntmps216
    go_wp2
    go_ret
    exact ⟨by rw [HR.out]; rfl, rfl⟩
theorem pow_le40 {k : Nat} (h : k ≤ 40) : 2 ^ k ≤ 1099511627776 := Nat.pow_le_pow_right (by decide) h
theorem rpower_any (n : Nat) (hn : n ≤ 40) (w : World) :
    Calls Tryz.prog 217 #[.int .i64 n] w fun e w' => e = .returned (.int .u64 ((2 ^ n : Nat) : Int)) ∧ w = w' := by
  go_enter Tryz.func217, Tryz.ntmps217
  go_wp2
  go_loop [3, 4] (fun v i => ∃ k x : Nat, k ≤ n ∧ i = .int .i64 k ∧ v = .int .u64 x ∧ Hid (x = 2 ^ k)) (fun _ i => n - (intOf i).toNat)
  case atStart => exact ⟨0, 1, Nat.zero_le _, rfl, rfl, Lib.hid rfl⟩
  case round =>
  obtain ⟨k, x, hk, rfl, rfl, hx⟩ := hrel
  by_cases hlt : k < n
  · have HX : Hid (2 * x = 2 ^ (k + 1) ∧ 2 * x ≤ 1099511627776) := Lib.hid (by
      have h1 : 2 * x = 2 ^ (k + 1) := by rw [hx.out, Nat.pow_succ, Nat.mul_comm]
      exact ⟨h1, by rw [h1]; exact pow_le40 (by omega)⟩)
    go_wp2
    go_round
    case rel => exact ⟨k + 1, 2 * x, by omega, by go_num, by
      have h2 := HX.out.2
      refine congrArg (Value.int .u64) ?_
      rw [IntWalk.u64_in _ (by omega)]; rfl, Lib.hid HX.out.1⟩
    case measure => simp [intOf]; omega
  · have e : k = n := by omega
    subst e
    go_wp2
    go_ret
    exact ⟨by rw [hx.out]; simp, rfl⟩
theorem rmask_any (n : Int) (w : World) :
    Calls Tryz.prog 222 #[.int .i64 n] w fun e w' => e = .returned (.int .u32 (maskM n)) ∧ w = w' := by
  cases hv : okW n
  · have HM := Lib.hid (show maskM n = 0 by rw [maskM, hv]; rfl)
    have HV := Lib.hid hv
    clear hv
    go_enter Tryz.func222, Tryz.ntmps222
    go_wp2_with fail
    refine (rvalid_any n _).mono ?_
    rintro e w1 ⟨rfl, rfl⟩
    rw [HV.out]
    go_wp2
    go_ret
    exact ⟨by rw [HM.out]; rfl, rfl⟩
  · have HV := Lib.hid hv
    have hr : 1 ≤ n ∧ n ≤ 32 := okW_iff.1 hv
    obtain ⟨m, rfl⟩ : ∃ m : Nat, n = m := ⟨n.toNat, by omega⟩
    have HR := Lib.hid hr
    have HM : Hid (IntKind.u32.wrap (((2 ^ m : Nat) : Int) - 1) = (maskM m : Int)) := Lib.hid (by
      have h1 : maskM (m : Int) = 2 ^ m - 1 := by rw [maskM, hv]; rfl
      have h2 : 2 ^ m ≤ 2 ^ 32 := Nat.pow_le_pow_right (by decide) (by omega)
      have h3 : 0 < 2 ^ m := Nat.pow_pos (by decide)
      rw [h1, IntWalk.u32_in _ (by omega)]
      omega)
    have HP : Hid ((2 ^ m : Nat) ≤ 4294967296 ∧ 0 < 2 ^ m) := Lib.hid ⟨Nat.pow_le_pow_right (n := 2) (by decide) (show m ≤ 32 by omega), Nat.pow_pos (by decide)⟩
    clear hv hr
    go_enter Tryz.func222, Tryz.ntmps222
    go_wp2_with fail
    refine (rvalid_any m _).mono ?_
    rintro e w1 ⟨rfl, rfl⟩
    rw [HV.out]
    go_wp2_with fail
    refine (rpower_any m (by have := HR.out; omega) _).mono ?_
    rintro e w1 ⟨rfl, rfl⟩
    generalize hX : 2 ^ m = X at *
    have hX1 : 0 < (X : Int) := by have := HP.out; omega
    have hX2 : (X : Int) ≤ 4294967296 := by have := HP.out; omega
    clear hX
    go_wp2
    go_ret
    exact ⟨by rw [← HM.out, IntWalk.u32_in _ (by omega)]; rfl, rfl⟩
theorem pow_okW {n : Int} (hv : okW n = true) : ∃ m : Nat, n = m ∧ 1 ≤ m ∧ m ≤ 32 ∧ maskM n = 2 ^ m - 1 := by
  have hr := okW_iff.1 hv
  refine ⟨n.toNat, by omega, by omega, by omega, by rw [maskM, hv]; rfl⟩
theorem rfits_any (v n : Int) (hw : (Lit.int .u32 v).wf = true) (w : World) :
    Calls Tryz.prog 207 #[.int .u32 v, .int .i64 n] w fun e w' => e = .returned (.bool (fitsM v n)) ∧ w = w' := by
  have hv0 : 0 ≤ v ∧ v ≤ 4294967295 := by
    have e1 : IntKind.u32.min = 0 := rfl
    have e2 : IntKind.u32.max = 4294967295 := rfl
    simp only [Lit.wf, Bool.and_eq_true, decide_eq_true_eq] at hw
    omega
  clear hw
  cases hv : okW n
  · have HM := Lib.hid (show fitsM v n = false by rw [fitsM, hv]; rfl)
    have HV := Lib.hid hv
    clear hv
    go_enter Tryz.func207, Tryz.ntmps207
    go_upto_region 1 with fail
    go_wp2_with fail
    refine (rvalid_any n _).mono ?_
    rintro e w1 ⟨rfl, rfl⟩
    rw [HV.out]
    go_wp2
    go_ret
    exact ⟨by rw [HM.out]; rfl, rfl⟩
  · obtain ⟨m, rfl, h1, h2, h3⟩ := pow_okW hv
    have HM : Hid (fitsM v m = decide (v < ((2 ^ m : Nat) : Int))) := Lib.hid (by
      have h4 : 0 < 2 ^ m := Nat.pow_pos (by decide)
      rw [fitsM, hv, h3, Bool.true_and]
      exact decide_eq_decide.2 (by omega))
    have HV := Lib.hid hv
    clear hv h3
    go_enter Tryz.func207, Tryz.ntmps207
    go_wp2_with fail
    refine (rvalid_any m _).mono ?_
    rintro e w1 ⟨rfl, rfl⟩
    rw [HV.out]
    go_wp2_with fail
    refine (rpower_any m (by omega) _).mono ?_
    rintro e w1 ⟨rfl, rfl⟩
    generalize 2 ^ m = X at *
    go_wp2
    go_ret
    exact ⟨by rw [HM.out]; rfl, rfl⟩
theorem rfits12_any (v : Int) (n : Nat) (hn : n ≤ 32) (hw : (Lit.int .u32 v).wf = true) (w : World) :
    Calls Tryz.prog 208 #[.int .u32 v, .int .i64 n] w fun e w' => e = .returned (.bool (decide (v < ((2 ^ n : Nat) : Int)))) ∧ w = w' := by
  have hv0 : 0 ≤ v ∧ v ≤ 4294967295 := by
    have e1 : IntKind.u32.min = 0 := rfl
    have e2 : IntKind.u32.max = 4294967295 := rfl
    simp only [Lit.wf, Bool.and_eq_true, decide_eq_true_eq] at hw
    omega
  clear hw
  go_enter Tryz.func208, Tryz.ntmps208
  go_wp2
  go_loop [5, 6] (fun v i => ∃ k x : Nat, k ≤ n ∧ i = .int .i64 k ∧ v = .int .u64 x ∧ Hid (x = 2 ^ k)) (fun _ i => n - (intOf i).toNat)
  case atStart => exact ⟨0, 1, Nat.zero_le _, rfl, rfl, Lib.hid rfl⟩
  case round =>
  obtain ⟨k, x, hk, rfl, rfl, hx⟩ := hrel
  by_cases hlt : k < n
  · have HX : Hid (2 * x = 2 ^ (k + 1) ∧ 2 * x ≤ 1099511627776) := Lib.hid (by
      have h1 : 2 * x = 2 ^ (k + 1) := by rw [hx.out, Nat.pow_succ, Nat.mul_comm]
      exact ⟨h1, by rw [h1]; exact pow_le40 (by omega)⟩)
    go_wp2
    go_round
    case rel => exact ⟨k + 1, 2 * x, by omega, by go_num, by
      have h2 := HX.out.2
      refine congrArg (Value.int .u64) ?_
      rw [IntWalk.u64_in _ (by omega)]; rfl, Lib.hid HX.out.1⟩
    case measure => simp [intOf]; omega
  · have e : k = n := by omega
    subst e
    go_wp2
    go_ret
    have h := hx.out
    subst h
    exact ⟨by simp, rfl⟩
theorem fits12_eq {v n : Int} (hv : okW n = true) : fitsM v n = decide (v < ((2 ^ n.toNat : Nat) : Int)) := by
  obtain ⟨m, rfl, h1, h2, h3⟩ := pow_okW hv
  have h4 : 0 < 2 ^ m := Nat.pow_pos (by decide)
  rw [fitsM, hv, h3, Bool.true_and, Int.toNat_natCast]
  exact decide_eq_decide.2 (by omega)
end Go.Proofs.YtgfbikknkcaneaaGreat
namespace Go.Proofs.YtgfbikknkcaneaaGreat
open Go.RowKit

theorem rarity_any (op : Int) (w : World) : Calls Tryz.prog 213 #[.int .i64 op] w fun e w' => e = .returned (.int .i64 (arityM op)) ∧ w = w' := by
  have hd : op < 1 ∨ (1 ≤ op ∧ op ≤ 4) ∨ (5 ≤ op ∧ op ≤ 8) ∨ (9 ≤ op ∧ op ≤ 16) ∨ op = 17 ∨ 17 < op := by omega
  rcases hd with h | ⟨h1, h2⟩ | ⟨h1, h2⟩ | ⟨h1, h2⟩ | h | h
  · have HR := Lib.hid (show arityM op = -1 by unfold arityM; repeat' split <;> omega)
    have k1 : (op == 17) = false := beq_eq_false_iff_ne.2 (by omega)
    have k2 : ¬ 5 ≤ op := by omega
    have k3 : ¬ 9 ≤ op := by omega
    go_enter Tryz.func213, Tryz.ntmps213
    go_wp2
    go_ret
    exact ⟨by rw [HR.out]; rfl, rfl⟩
  · have HR := Lib.hid (show arityM op = 0 by unfold arityM; repeat' split <;> omega)
    go_enter Tryz.func213, Tryz.ntmps213
    go_wp2
    go_ret
    exact ⟨by rw [HR.out]; rfl, rfl⟩
  · have HR := Lib.hid (show arityM op = 1 by unfold arityM; repeat' split <;> omega)
    have k2 : 1 ≤ op := by omega
    have k3 : ¬ op ≤ 4 := by omega
    go_enter Tryz.func213, Tryz.ntmps213
    go_wp2
    go_ret
    exact ⟨by rw [HR.out]; rfl, rfl⟩
  · have HR := Lib.hid (show arityM op = 2 by unfold arityM; repeat' split <;> omega)
    have k2 : 1 ≤ op := by omega
    have k3 : ¬ op ≤ 4 := by omega
    have k4 : 5 ≤ op := by omega
    have k5 : ¬ op ≤ 8 := by omega
    go_enter Tryz.func213, Tryz.ntmps213
    go_wp2
    go_ret
    exact ⟨by rw [HR.out]; rfl, rfl⟩
  · subst h
    go_enter Tryz.func213, Tryz.ntmps213
    go_wp2
    go_ret
    exact ⟨rfl, rfl⟩
  · have HR := Lib.hid (show arityM op = -1 by unfold arityM; repeat' split <;> omega)
    have k1 : (op == 17) = false := beq_eq_false_iff_ne.2 (by omega)
    have k2 : 1 ≤ op := by omega
    have k3 : ¬ op ≤ 4 := by omega
    have k4 : 5 ≤ op := by omega
    have k5 : ¬ op ≤ 8 := by omega
    have k6 : 9 ≤ op := by omega
    have k7 : ¬ op ≤ 16 := by omega
    go_enter Tryz.func213, Tryz.ntmps213
    go_wp2
    go_ret
    exact ⟨by rw [HR.out]; rfl, rfl⟩
theorem rwide_any (n : Int) (w : World) : Calls Tryz.prog 221 #[.int .i64 n] w fun e w' => e = .returned (.tuple #[.int .i64 (wideM n).1, .int .i64 (wideM n).2]) ∧ w = w' := by
  cases h : okW n
  · have HR := Lib.hid (wideM_bad h)
    have h' := okW_not.1 h
    clear h
    by_cases h2 : n < 1
    · go_enter Tryz.func221, Tryz.ntmps221
      go_wp2
      go_ret2
      exact ⟨by rw [HR.out]; rfl, rfl⟩
    · have h1 : 32 < n := by omega
      go_enter Tryz.func221, Tryz.ntmps221
      go_wp2
      go_ret2
      exact ⟨by rw [HR.out]; rfl, rfl⟩
  · have HR := Lib.hid (wideM_ok h)
    obtain ⟨h1, h2⟩ := okW_iff.1 h
    go_enter Tryz.func221, Tryz.ntmps221
    go_wp2
    go_ret2
    exact ⟨by rw [HR.out]; rfl, rfl⟩
theorem widthAt_decl (p : ProgD) (h f : Int) : widthAt p h f = match declF p h f with | some d => if okW d.width = true then d.width else 0 | none => 0 := by
  have hn : okW noField.width = false := rfl
  unfold widthAt fieldsM
  rcases fieldsOf_cases p h with ⟨rfl, hx⟩ | ⟨h1, h2, hx⟩ | ⟨k, hk, rfl, hx⟩
  · rw [if_pos rfl]
    rcases declF_cases hx f with ⟨h3, hd⟩ | ⟨j, hj, rfl, hd⟩
    · have e : fieldAt p.metadata f = noField := by
        unfold fieldAt
        split
        · rfl
        · rw [List.getElem?_eq_none (by omega)]; rfl
      rw [hd, e, hn]; rfl
    · have e : fieldAt p.metadata j = p.metadata.l[j] := by rw [fieldAt, if_neg (by omega)]; simp [hj]
      rw [hd, e]
  · have e : headerAt p.headers h = noHeader := by
      unfold headerAt
      split
      · rfl
      · rw [List.getElem?_eq_none (by omega)]; rfl
    have e2 : fieldAt noHeader.fields f = noField := by
      unfold fieldAt
      split <;> rfl
    rw [if_neg h1, declF_none hx f, e, e2, hn]; rfl
  · have e0 : headerAt p.headers k = p.headers.l[k] := by rw [headerAt, if_neg (by omega)]; simp [hk]
    rw [if_neg (show ¬ ((k : Nat) : Int) = -1 by omega), e0]
    rcases declF_cases hx f with ⟨h3, hd⟩ | ⟨j, hj, rfl, hd⟩
    · have e : fieldAt p.headers.l[k].fields f = noField := by
        unfold fieldAt
        split
        · rfl
        · rw [List.getElem?_eq_none (by omega)]; rfl
      rw [hd, e, hn]; rfl
    · have e : fieldAt p.headers.l[k].fields j = p.headers.l[k].fields.l[j] := by rw [fieldAt, if_neg (by omega)]; simp [hj]
      rw [hd, e]
/-- a declared width, and whether there is one -/
def declV (d : Option FieldD) : Value := .tuple #[.int .i64 (d.getD noField).width, .bool d.isSome]
set_option maxRecDepth 100000 in
set_option maxHeartbeats 2000000 in
theorem rdeclared_any (p : ProgD) (h f : Int) (w : World) (o : ProgOk w p) :
    Calls Tryz.prog 181 #[.agg (progCells p), .agg #[.int .i64 h, .int .i64 f]] w fun e w' => e = .returned (declV (declF p h f)) ∧ Below w.heap.size w w' := by
  have HO := Lib.hid o
  clear o
  have hca := @World.cell?_alloc_some
  rcases fieldsOf_cases p h with ⟨rfl, hx⟩ | ⟨h1, h2, hx⟩ | ⟨k, hk, rfl, hx⟩
  · rcases declF_cases hx f with ⟨h3, hd⟩ | ⟨j, hj, rfl, hd⟩
    · have HR := Lib.hid hd
      clear hd hx
      by_cases h4 : f < 0
      · clear h3
        go_enter Tryz.func181, Tryz.ntmps181
        go_wp2
        go_ret2
        exact ⟨by rw [HR.out]; rfl, below2 _ _ _⟩
      · have h5 : (p.metadata.l.length : Int) ≤ f := by omega
        clear h3
        go_enter Tryz.func181, Tryz.ntmps181
        go_wp2
        go_ret2
        exact ⟨by rw [HR.out]; rfl, below2 _ _ _⟩
    · have HR := Lib.hid hd
      obtain ⟨g, of, hA, d0, d1⟩ := FieldD.at HO.out.metadata hj
      simp only [progCells, hA]
      clear hd hx hA
      generalize p.metadata.l[j] = y at *
      go_enter Tryz.func181, Tryz.ntmps181
      go_wp2
      go_ret2
      exact ⟨by rw [HR.out]; rfl, below2 _ _ _⟩
  · have HR := Lib.hid (declF_none hx f)
    have h1' : (h == -1) = false := beq_eq_false_iff_ne.2 h1
    clear hx
    by_cases h4 : h < 0
    · clear h2
      go_enter Tryz.func181, Tryz.ntmps181
      go_wp2
      go_ret2
      exact ⟨by rw [HR.out]; rfl, below2 _ _ _⟩
    · have h5 : (p.headers.l.length : Int) ≤ h := by omega
      clear h2
      go_enter Tryz.func181, Tryz.ntmps181
      go_wp2
      go_ret2
      exact ⟨by rw [HR.out]; rfl, below2 _ _ _⟩
  · obtain ⟨g, of, hA, d0, d1⟩ := HeaderD.at HO.out.headers hk
    have HF := Lib.hid (HO.out.hdr _ (List.getElem_mem hk)).fields
    have h1' : ((k : Int) == -1) = false := beq_eq_false_iff_ne.2 (by omega)
    simp only [progCells, hA]
    clear hA
    generalize p.headers.l[k] = x at *
    obtain ⟨xn, ⟨fl, fA, fc⟩⟩ := x
    simp only [L.v] at d1
    rcases declF_cases hx f with ⟨h3, hd⟩ | ⟨j, hj, rfl, hd⟩
    · have HR := Lib.hid hd
      simp only at h3
      clear hd hx
      by_cases h4 : f < 0
      · clear h3
        go_enter Tryz.func181, Tryz.ntmps181
        go_wp2
        go_ret2
        exact ⟨by rw [HR.out]; rfl, below2 _ _ _⟩
      · have h5 : (fl.length : Int) ≤ f := by omega
        clear h3
        go_enter Tryz.func181, Tryz.ntmps181
        go_wp2
        go_ret2
        exact ⟨by rw [HR.out]; rfl, below2 _ _ _⟩
    · have HR := Lib.hid hd
      simp only at hj
      obtain ⟨g2, of2, hA, e0, e1⟩ := FieldD.at HF.out hj
      simp only at hA e0 e1
      subst hA
      clear hd hx
      simp only at HR
      generalize fl[j] = y at *
      go_enter Tryz.func181, Tryz.ntmps181
      go_wp2
      go_ret2
      exact ⟨by rw [HR.out]; rfl, below2 _ _ _⟩
end Go.Proofs.YtgfbikknkcaneaaGreat
namespace Go.Proofs.YtgfbikknkcaneaaGreat
open Go.RowKit

set_option maxRecDepth 100000 in
set_option maxHeartbeats 4000000 in
theorem rwidth12_any (p : ProgD) (h f : Int) (w : World) (o : ProgOk w p) :
    Calls Tryz.prog 186 #[.agg (progCells p), .agg #[.int .i64 h, .int .i64 f]] w fun e w' => e = .returned (.int .i64 (widthAt p h f)) ∧ Below w.heap.size w w' := by
  have HO := Lib.hid o
  have HWd := Lib.hid (widthAt_decl p h f)
  clear o
  have hca := @World.cell?_alloc_some
  rcases fieldsOf_cases p h with ⟨rfl, hx⟩ | ⟨h1, h2, hx⟩ | ⟨k, hk, rfl, hx⟩
  · rcases declF_cases hx f with ⟨h3, hd⟩ | ⟨j, hj, rfl, hd⟩
    · have HR : Hid (widthAt p (-1) f = 0) := Lib.hid (by rw [HWd.out, hd])
      clear hd hx HWd
      by_cases h4 : f < 0
      · clear h3
        go_enter Tryz.func186, Tryz.ntmps186
        go_wp2
        go_ret
        exact ⟨by rw [HR.out]; rfl, below2 _ _ _⟩
      · have h5 : (p.metadata.l.length : Int) ≤ f := by omega
        clear h3
        go_enter Tryz.func186, Tryz.ntmps186
        go_wp2
        go_ret
        exact ⟨by rw [HR.out]; rfl, below2 _ _ _⟩
    · obtain ⟨g, of, hA, d0, d1⟩ := FieldD.at HO.out.metadata hj
      simp only [progCells, hA]
      have HR : Hid (widthAt p (-1) j = if okW p.metadata.l[j].width = true then p.metadata.l[j].width else 0) := Lib.hid (by rw [HWd.out, hd])
      clear hd hx hA HWd
      generalize p.metadata.l[j] = y at *
      generalize y.width = n at *
      by_cases h6 : n < 1
      · have HR2 := Lib.hid (show widthAt p (-1) j = 0 by rw [HR.out, okW_not.2 (.inl h6)]; rfl)
        clear HR
        go_enter Tryz.func186, Tryz.ntmps186
        go_wp2
        go_ret
        exact ⟨by rw [HR2.out]; rfl, below2 _ _ _⟩
      by_cases h7 : 32 < n
      · have HR2 := Lib.hid (show widthAt p (-1) j = 0 by rw [HR.out, okW_not.2 (.inr h7)]; rfl)
        clear HR
        go_enter Tryz.func186, Tryz.ntmps186
        go_wp2
        go_ret
        exact ⟨by rw [HR2.out]; rfl, below2 _ _ _⟩
      have HR2 := Lib.hid (show widthAt p (-1) j = n by rw [HR.out, okW_iff.2 ⟨by omega, by omega⟩]; rfl)
      clear HR
      go_enter Tryz.func186, Tryz.ntmps186
      go_wp2
      go_ret
      exact ⟨by rw [HR2.out]; rfl, below2 _ _ _⟩
  · have HR : Hid (widthAt p h f = 0) := Lib.hid (by rw [HWd.out, declF_none hx f])
    clear hx HWd
    by_cases h4 : h < 0
    · have h5 : h < -1 := by omega
      clear h2
      go_enter Tryz.func186, Tryz.ntmps186
      go_wp2
      go_ret
      exact ⟨by rw [HR.out]; rfl, below2 _ _ _⟩
    · have h5 : (p.headers.l.length : Int) ≤ h := by omega
      clear h2
      go_enter Tryz.func186, Tryz.ntmps186
      go_wp2
      go_ret
      exact ⟨by rw [HR.out]; rfl, below2 _ _ _⟩
  · obtain ⟨g, of, hA, d0, d1⟩ := HeaderD.at HO.out.headers hk
    have HF := Lib.hid (HO.out.hdr _ (List.getElem_mem hk)).fields
    simp only [progCells, hA]
    clear hA
    generalize p.headers.l[k] = x at *
    obtain ⟨xn, ⟨fl, fA, fc⟩⟩ := x
    simp only [L.v] at d1
    rcases declF_cases hx f with ⟨h3, hd⟩ | ⟨j, hj, rfl, hd⟩
    · have HR : Hid (widthAt p k f = 0) := Lib.hid (by rw [HWd.out, hd])
      simp only at h3
      clear hd hx HWd
      by_cases h4 : f < 0
      · clear h3
        go_enter Tryz.func186, Tryz.ntmps186
        go_wp2
        go_ret
        exact ⟨by rw [HR.out]; rfl, below2 _ _ _⟩
      · have h5 : (fl.length : Int) ≤ f := by omega
        clear h3
        go_enter Tryz.func186, Tryz.ntmps186
        go_wp2
        go_ret
        exact ⟨by rw [HR.out]; rfl, below2 _ _ _⟩
    · simp only at hj
      have HR : Hid (widthAt p k j = if okW fl[j].width = true then fl[j].width else 0) := Lib.hid (by rw [HWd.out, hd])
      obtain ⟨g2, of2, hA, e0, e1⟩ := FieldD.at HF.out hj
      simp only at hA e0 e1
      subst hA
      clear hd hx HWd
      generalize fl[j] = y at *
      generalize y.width = n at *
      by_cases h6 : n < 1
      · have HR2 := Lib.hid (show widthAt p k j = 0 by rw [HR.out, okW_not.2 (.inl h6)]; rfl)
        clear HR
        go_enter Tryz.func186, Tryz.ntmps186
        go_wp2
        go_ret
        exact ⟨by rw [HR2.out]; rfl, below2 _ _ _⟩
      by_cases h7 : 32 < n
      · have HR2 := Lib.hid (show widthAt p k j = 0 by rw [HR.out, okW_not.2 (.inr h7)]; rfl)
        clear HR
        go_enter Tryz.func186, Tryz.ntmps186
        go_wp2
        go_ret
        exact ⟨by rw [HR2.out]; rfl, below2 _ _ _⟩
      have HR2 := Lib.hid (show widthAt p k j = n by rw [HR.out, okW_iff.2 ⟨by omega, by omega⟩]; rfl)
      clear HR
      go_enter Tryz.func186, Tryz.ntmps186
      go_wp2
      go_ret
      exact ⟨by rw [HR2.out]; rfl, below2 _ _ _⟩
set_option maxRecDepth 100000 in
set_option maxHeartbeats 4000000 in
theorem rwidth17_any (p : ProgD) (h f : Int) (w : World) (o : ProgOk w p) :
    Calls Tryz.prog 150 #[.agg (progCells p), .agg #[.int .i64 h, .int .i64 f]] w fun e w' => e = .returned (.int .i64 (widthAt p h f)) ∧ Below w.heap.size w w' := by
  have HO := Lib.hid o
  have HWd := Lib.hid (widthAt_decl p h f)
  clear o
  have hca := @World.cell?_alloc_some
  rcases fieldsOf_cases p h with ⟨rfl, hx⟩ | ⟨h1, h2, hx⟩ | ⟨k, hk, rfl, hx⟩
  · rcases declF_cases hx f with ⟨h3, hd⟩ | ⟨j, hj, rfl, hd⟩
    · have HR : Hid (widthAt p (-1) f = 0) := Lib.hid (by rw [HWd.out, hd])
      clear hd hx HWd
      by_cases h4 : f < 0
      · clear h3
        go_enter Tryz.func150, Tryz.ntmps150
        go_wp2
        go_ret
        exact ⟨by rw [HR.out]; rfl, below2 _ _ _⟩
      · have h5 : (p.metadata.l.length : Int) ≤ f := by omega
        clear h3
        go_enter Tryz.func150, Tryz.ntmps150
        go_wp2
        go_ret
        exact ⟨by rw [HR.out]; rfl, below2 _ _ _⟩
    · obtain ⟨g, of, hA, d0, d1⟩ := FieldD.at HO.out.metadata hj
      simp only [progCells, hA]
      have HR : Hid (widthAt p (-1) j = if okW p.metadata.l[j].width = true then p.metadata.l[j].width else 0) := Lib.hid (by rw [HWd.out, hd])
      clear hd hx hA HWd
      generalize p.metadata.l[j] = y at *
      generalize y.width = n at *
      by_cases h6 : n < 1
      · have HR2 := Lib.hid (show widthAt p (-1) j = 0 by rw [HR.out, okW_not.2 (.inl h6)]; rfl)
        clear HR
        go_enter Tryz.func150, Tryz.ntmps150
        go_wp2
        go_ret
        exact ⟨by rw [HR2.out]; rfl, below2 _ _ _⟩
      by_cases h7 : 32 < n
      · have HR2 := Lib.hid (show widthAt p (-1) j = 0 by rw [HR.out, okW_not.2 (.inr h7)]; rfl)
        clear HR
        go_enter Tryz.func150, Tryz.ntmps150
        go_wp2
        go_ret
        exact ⟨by rw [HR2.out]; rfl, below2 _ _ _⟩
      have HR2 := Lib.hid (show widthAt p (-1) j = n by rw [HR.out, okW_iff.2 ⟨by omega, by omega⟩]; rfl)
      clear HR
      go_enter Tryz.func150, Tryz.ntmps150
      go_wp2
      go_ret
      exact ⟨by rw [HR2.out]; rfl, below2 _ _ _⟩
  · have HR : Hid (widthAt p h f = 0) := Lib.hid (by rw [HWd.out, declF_none hx f])
    clear hx HWd
    by_cases h4 : h < 0
    · have h5 : h < -1 := by omega
      clear h2
      go_enter Tryz.func150, Tryz.ntmps150
      go_wp2
      go_ret
      exact ⟨by rw [HR.out]; rfl, below2 _ _ _⟩
    · have h5 : (p.headers.l.length : Int) ≤ h := by omega
      clear h2
      go_enter Tryz.func150, Tryz.ntmps150
      go_wp2
      go_ret
      exact ⟨by rw [HR.out]; rfl, below2 _ _ _⟩
  · obtain ⟨g, of, hA, d0, d1⟩ := HeaderD.at HO.out.headers hk
    have HF := Lib.hid (HO.out.hdr _ (List.getElem_mem hk)).fields
    simp only [progCells, hA]
    clear hA
    generalize p.headers.l[k] = x at *
    obtain ⟨xn, ⟨fl, fA, fc⟩⟩ := x
    simp only [L.v] at d1
    rcases declF_cases hx f with ⟨h3, hd⟩ | ⟨j, hj, rfl, hd⟩
    · have HR : Hid (widthAt p k f = 0) := Lib.hid (by rw [HWd.out, hd])
      simp only at h3
      clear hd hx HWd
      by_cases h4 : f < 0
      · clear h3
        go_enter Tryz.func150, Tryz.ntmps150
        go_wp2
        go_ret
        exact ⟨by rw [HR.out]; rfl, below2 _ _ _⟩
      · have h5 : (fl.length : Int) ≤ f := by omega
        clear h3
        go_enter Tryz.func150, Tryz.ntmps150
        go_wp2
        go_ret
        exact ⟨by rw [HR.out]; rfl, below2 _ _ _⟩
    · simp only at hj
      have HR : Hid (widthAt p k j = if okW fl[j].width = true then fl[j].width else 0) := Lib.hid (by rw [HWd.out, hd])
      obtain ⟨g2, of2, hA, e0, e1⟩ := FieldD.at HF.out hj
      simp only at hA e0 e1
      subst hA
      clear hd hx HWd
      generalize fl[j] = y at *
      generalize y.width = n at *
      by_cases h6 : n < 1
      · have HR2 := Lib.hid (show widthAt p k j = 0 by rw [HR.out, okW_not.2 (.inl h6)]; rfl)
        clear HR
        go_enter Tryz.func150, Tryz.ntmps150
        go_wp2
        go_ret
        exact ⟨by rw [HR2.out]; rfl, below2 _ _ _⟩
      by_cases h7 : 32 < n
      · have HR2 := Lib.hid (show widthAt p k j = 0 by rw [HR.out, okW_not.2 (.inr h7)]; rfl)
        clear HR
        go_enter Tryz.func150, Tryz.ntmps150
        go_wp2
        go_ret
        exact ⟨by rw [HR2.out]; rfl, below2 _ _ _⟩
      have HR2 := Lib.hid (show widthAt p k j = n by rw [HR.out, okW_iff.2 ⟨by omega, by omega⟩]; rfl)
      clear HR
      go_enter Tryz.func150, Tryz.ntmps150
      go_wp2
      go_ret
      exact ⟨by rw [HR2.out]; rfl, below2 _ _ _⟩
end Go.Proofs.YtgfbikknkcaneaaGreat
namespace Go.Proofs.YtgfbikknkcaneaaGreat
open Go.RowKit

theorem below_eq {B : Nat} {w w' u : World} (h : w = w') (hb : Below B u w) : Below B u w' := h ▸ hb
set_option maxRecDepth 100000 in
set_option maxHeartbeats 4000000 in
theorem rleaf_any (p : ProgD) (ps : L FieldD) (op n wd : Int) (w : World) (o : ProgOk w p) (hps : LOk w 2 FieldD.cells ps) :
    Calls Tryz.prog 214 #[.agg #[.int .i64 op, .int .i64 n, .int .i64 wd], .agg (scopeCells p ps)] w fun e w' =>
      e = .returned (.tuple #[.int .i64 (primM p ps.l ⟨op, n, wd⟩).1, .int .i64 (primM p ps.l ⟨op, n, wd⟩).2]) ∧ Below w.heap.size w w' := by
  have HO := Lib.hid o
  have HP := Lib.hid hps
  clear o hps
  obtain ⟨W, hW, hw, HB, hp⟩ := box2 w #[.int .i64 op, .int .i64 n, .int .i64 wd] 131 (scopeCells p ps) 182
  have HW := Lib.hid hw
  clear hw
  have HR := Lib.hid (primM.eq_1 p ps.l ⟨op, n, wd⟩)
  by_cases k1 : op = 1
  · subst k1
    replace HR := Lib.hid (HR.out.trans (if_pos rfl))
    have hm := maskM_lt wd
    have hwr : IntKind.i64.wrap (maskM wd : Int) = (maskM wd : Int) := IntWalk.i64_in _ (by omega)
    go_enter Tryz.func214, Tryz.ntmps214
    go_upto_region 1 with fail
    rw [← hW]
    clear hW
    go_wp2_with fail
    refine (rwide_any wd _).mono ?_
    rintro e w' ⟨rfl, rfl⟩
    cases hv : okW wd
    · replace HR := Lib.hid (HR.out.trans (if_neg (show ¬ okW wd = true by rw [hv]; simp)))
      rw [wideM_bad hv]
      go_wp2
      go_quiet (fail)
      go_wp2
      go_ret2
      exact ⟨ret_pp HR.out, below_step HW.out (below_drewN HB _)⟩
    · replace HR := Lib.hid (HR.out.trans (if_pos hv))
      rw [wideM_ok hv]
      by_cases k2 : n < 0
      · replace HR := Lib.hid (HR.out.trans (if_pos (.inl k2)))
        have k2' : decide (n < 0) = true := decide_eq_true k2
        go_wp2
        go_quiet (fail)
        go_wp2
        go_ret2
        exact ⟨ret_pp HR.out, below_step HW.out (below_drewN HB _)⟩
      · have k2' : decide (n < 0) = false := decide_eq_false k2
        by_cases k3 : (maskM wd : Int) < n
        all_goals
          first
            | replace HR := Lib.hid (HR.out.trans (if_pos (Or.inr k3)))
            | replace HR := Lib.hid (HR.out.trans (if_neg (show ¬ (n < 0 ∨ (maskM wd : Int) < n) from fun h => h.elim k2 k3)))
          have H0 := Lib.hid HB
          clear HB
          go_wp2
          go_region_held3 (fun w' => Below W.heap.size W w') (first | exact H0.out | exact below_drew H0.out | (exact below_step (by assumption) (by assumption)) | assumption)
            (first | (go_at_call 222; refine (rmask_any wd _).mono ?_; rintro e w1 ⟨rfl, rfl⟩))
          have HB5 : Hid (Below W.heap.size W _) := Lib.hid (by assumption)
          have HB := HB5.out
          go_wp2
          go_ret2
          exact ⟨ret_pp HR.out, below_step HW.out HB⟩
  replace HR := Lib.hid (HR.out.trans (if_neg k1))
  have k1' : (op == 1) = false := beq_eq_false_iff_ne.2 k1
  by_cases k2 : op = 2
  · subst k2
    replace HR := Lib.hid (HR.out.trans (if_pos rfl))
    have hca := @World.cell?_alloc_some
    go_enter Tryz.func214, Tryz.ntmps214
    go_upto_region 1 with fail
    rw [← hW]
    clear hW
    go_wp2_with fail
    refine (rdeclared_any p n wd _ (HO.out.below (below_step HW.out (by first | exact HB | exact below_alloc HB _ | exact below_alloc (below_alloc HB _) _ | exact below_alloc (below_alloc (below_alloc HB _) _) _)))).mono ?_
    rintro e w1 ⟨rfl, hbN⟩
    replace HB := below_step (by first | exact HB | exact below_alloc HB _ | exact below_alloc (below_alloc HB _) _ | exact below_alloc (below_alloc (below_alloc HB _) _) _) hbN
    clear hbN
    rcases hd : declF p n wd with _ | y
    · simp only [declM, hd, Option.map_none] at HR
      simp only [declV, Option.getD_none, Option.isSome_none]
      go_wp2
      go_ret2
      exact ⟨ret_pp HR.out, below_step HW.out (by first | exact HB | exact below_alloc HB _ | exact below_alloc (below_alloc HB _) _ | exact below_alloc (below_alloc (below_alloc HB _) _) _)⟩
    · simp only [declM, hd, Option.map_some] at HR
      simp only [declV, Option.getD_some, Option.isSome_some]
      go_wp2_with fail
      refine (rwide_any y.width _).mono ?_
      rintro e w' ⟨rfl, rfl⟩
      go_wp2
      go_ret2
      exact ⟨ret_pp HR.out, below_step HW.out (by first | exact HB | exact below_alloc HB _ | exact below_alloc (below_alloc HB _) _ | exact below_alloc (below_alloc (below_alloc HB _) _) _)⟩
  replace HR := Lib.hid (HR.out.trans (if_neg k2))
  have k2' : (op == 2) = false := beq_eq_false_iff_ne.2 k2
  by_cases k3 : op = 3
  · subst k3
    replace HR := Lib.hid (HR.out.trans (if_pos rfl))
    by_cases k4 : n < 0
    · replace HR := Lib.hid (HR.out.trans (if_pos k4))
      go_enter Tryz.func214, Tryz.ntmps214
      go_upto_region 1 with fail
      rw [← hW]
      clear hW
      go_wp2
      go_ret2
      exact ⟨ret_pp HR.out, below_step HW.out HB⟩
    · replace HR := Lib.hid (HR.out.trans (if_neg k4))
      obtain ⟨k, rfl⟩ : ∃ k : Nat, n = k := ⟨n.toNat, by omega⟩
      by_cases k5 : k < ps.l.length
      · obtain ⟨g, of, hA, hq⟩ := FieldD.atA (HP.out.below HW.out (Nat.le_refl _)) k5
        have HR2 := Lib.hid (show primM p ps.l ⟨3, k, wd⟩ = wideM (ps.l[k]).width by rw [HR.out]; simp [k5])
        simp only [scopeCells, hA] at hW hp ⊢
        generalize ps.l[k] = y at *
        go_enter Tryz.func214, Tryz.ntmps214
        go_upto_region 1 with fail
        rw [← hW]
        clear hW
        go_wp2_with fail
        refine (rwide_any y.width _).mono ?_
        rintro e w' ⟨rfl, rfl⟩
        go_wp2
        go_ret2
        exact ⟨ret_pp HR2.out, below_step HW.out HB⟩
      · have HR2 := Lib.hid (show primM p ps.l ⟨3, k, wd⟩ = (0, 8) by rw [HR.out]; simp [List.getElem?_eq_none (Nat.le_of_not_lt k5)])
        go_enter Tryz.func214, Tryz.ntmps214
        go_upto_region 1 with fail
        rw [← hW]
        clear hW
        go_wp2
        go_ret2
        exact ⟨ret_pp HR2.out, below_step HW.out HB⟩
  replace HR := Lib.hid (HR.out.trans (if_neg k3))
  have k3' : (op == 3) = false := beq_eq_false_iff_ne.2 k3
  by_cases k4 : n < 0
  · replace HR := Lib.hid (HR.out.trans (if_pos (.inl k4)))
    go_enter Tryz.func214, Tryz.ntmps214
    go_upto_region 1 with fail
    rw [← hW]
    clear hW
    go_wp2
    go_ret2
    exact ⟨ret_pp HR.out, below_step HW.out HB⟩
  by_cases k5 : (p.headers.l.length : Int) ≤ n
  · replace HR := Lib.hid (HR.out.trans (if_pos (.inr k5)))
    go_enter Tryz.func214, Tryz.ntmps214
    go_upto_region 1 with fail
    rw [← hW]
    clear hW
    go_wp2
    go_ret2
    exact ⟨ret_pp HR.out, below_step HW.out HB⟩
  · replace HR := Lib.hid (HR.out.trans (if_neg (fun h => h.elim k4 k5)))
    go_enter Tryz.func214, Tryz.ntmps214
    go_upto_region 1 with fail
    rw [← hW]
    clear hW
    go_wp2
    go_ret2
    exact ⟨ret_pp HR.out, below_step HW.out HB⟩
end Go.Proofs.YtgfbikknkcaneaaGreat
