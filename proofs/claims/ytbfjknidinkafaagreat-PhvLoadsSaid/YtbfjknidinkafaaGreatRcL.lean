/- The walks of the reference's checks of the parser and of the deparser. No condition but that the program lies in memory and its numbers are of their kinds. -/
import Derived.Test.YtbfjknidinkafaaGreatRcK
namespace Go.Proofs.YtbfjknidinkafaaGreat
open Go.RowKit

theorem stateAt_stM (p : ProgD) (k : Nat) (h : k < p.states.l.length) : stateAtM p k = if (stM p k p.states.l[k]).2 ≠ 0 then some ((k : Int), (stM p k p.states.l[k]).1, (stM p k p.states.l[k]).2) else none := by
  rw [stateAtM_at p k h, stM]
  by_cases h1 : ident p.states.l[k].name = false
  · rw [if_pos h1, if_pos h1]; rfl
  · rw [if_neg h1, if_neg h1]
    by_cases h2 : dupB (p.states.l.map StateD.name) k = true
    · rw [if_pos h2, if_pos h2]; rfl
    · rw [if_neg h2, if_neg h2]
set_option maxRecDepth 100000 in
set_option maxHeartbeats 4000000 in
theorem rparserCheck_any (p : ProgD) (w : World) (o : ProgOk w p) (hc : ∀ s ∈ p.states.l, ∀ c ∈ s.cases.l, (Lit.int .u32 c.value).wf = true ∧ (Lit.int .u32 c.mask).wf = true) :
    Calls Tryz.prog 99 #[.agg (progCells p)] w fun e w' => e = .returned (.tuple #[.int .i64 (parserM p).1, .int .i64 (parserM p).2.1, .int .i64 (parserM p).2.2]) ∧ Below w.heap.size w w' := by
  have HO := Lib.hid o
  have HC := Lib.hid hc
  obtain ⟨W, hW, hw, HB, hp⟩ := box1 w (progCells p) 31
  have HW := Lib.hid hw
  have HR := Lib.hid (parserM.eq_1 p)
  have HS := Lib.hid (stateAt_stM p)
  clear o hw hc
  by_cases h1 : p.states.l.length = 0
  · replace HR := Lib.hid (HR.out.trans (if_pos h1))
    have h1' : ((p.states.l.length : Int) == 0) = true := by rw [beq_iff_eq]; omega
    clear h1
    go_enter Tryz.func99, Tryz.ntmps99
    go_upto_region 1 with fail
    rw [← hW]
    clear hW
    go_wp2
    go_ret3
    exact ⟨ret_3 HR.out, below_step HW.out HB⟩
  replace HR := Lib.hid (HR.out.trans (if_neg h1))
  have h1' : ((p.states.l.length : Int) == 0) = false := by rw [beq_eq_false_iff_ne]; omega
  clear h1
  by_cases h2 : 12 < p.states.l.length
  · replace HR := Lib.hid (HR.out.trans (if_pos h2))
    go_enter Tryz.func99, Tryz.ntmps99
    go_upto_region 1 with fail
    rw [← hW]
    clear hW
    go_wp2
    go_ret3
    exact ⟨ret_3 HR.out, below_step HW.out HB⟩
  replace HR := Lib.hid (HR.out.trans (if_neg h2))
  have h3 : p.states.l.length ≤ 12 := by omega
  clear h2
  have HB1 := Lib.hid HB
  go_enter Tryz.func99, Tryz.ntmps99
  go_upto_region 1 with fail
  rw [← hW]
  clear hW
  go_wp2
  clear HB
  go_loopw [5, 6, 7] (fun iv _ _ wr => ∃ k : Nat, k ≤ p.states.l.length ∧ iv = .int .i64 k ∧ (∀ j, j < k → stateAtM p j = none) ∧ Below W.heap.size W wr) (fun i _ _ _ => p.states.l.length - (intOf i).toNat)
  case atStart => exact ⟨0, Nat.zero_le _, rfl, fun j h => absurd h (Nat.not_lt_zero _), HB1.out⟩
  case round =>
    obtain ⟨k, hk, rfl, hpre, HB⟩ := hrel
    have HPre := Lib.hid hpre
    clear hpre
    have hp3 := hp wr HB
    by_cases hlt : k < p.states.l.length
    · have HE := Lib.hid (HS.out k hlt)
      have HCS := Lib.hid (fun w o => rstate_any p k hlt w o (HC.out _ (List.getElem_mem hlt)))
      have hlt' : (k : Int) < (p.states.l.length : Int) := by omega
      generalize p.states.l[k] = s at *
      go_wp2_with fail
      refine (HCS.out _ (HO.out.below (below_step HW.out (by first | exact HB | exact below_alloc HB _ | exact below_alloc (below_alloc HB _) _ | exact below_alloc (below_alloc (below_alloc HB _) _) _)))).mono ?_
      rintro e w2 ⟨rfl, hbN⟩
      replace HB := below_step (by first | exact HB | exact below_alloc HB _ | exact below_alloc (below_alloc HB _) _ | exact below_alloc (below_alloc (below_alloc HB _) _) _) hbN
      clear hbN
      generalize stM p k s = r at *
      obtain ⟨ra, rc⟩ := r
      simp only at HE
      by_cases k1 : rc = 0
      · subst k1
        have HP2 := Lib.hid (firstE_step HPre.out (HE.out.trans (if_neg (by simp))))
        go_wp2
        go_roundw
        case rel => exact ⟨k + 1, by omega, by go_num, HP2.out, HB⟩
        case measure => simp [intOf]; omega
      · have HR2 := Lib.hid (HR.out.trans (show _ = ((k : Int), ra, rc) by rw [firstE_some hlt HPre.out (HE.out.trans (if_pos k1))]))
        have k1' : (rc == 0) = false := beq_eq_false_iff_ne.2 k1
        clear k1
        go_wp2
        go_ret3
        exact ⟨ret_3 HR2.out, below_step HW.out HB⟩
    · have e : k = p.states.l.length := by omega
      have HR2 := Lib.hid (HR.out.trans (show _ = ((0 : Int), (0 : Int), (0 : Int)) by rw [firstE_none (by rw [← e]; exact HPre.out)]))
      go_wp2
      go_ret3
      exact ⟨ret_3 HR2.out, below_step HW.out HB⟩

theorem mem_take {l : List Int} {i : Nat} (hi : i < l.length) :
    (∀ j (hj : j < l.length), j < i → l[j] = l[i] → l[i] ∈ l.take i) ∧ ((∀ j (hj : j < l.length), j < i → l[j] ≠ l[i]) → l[i] ∉ l.take i) := by
  constructor
  · intro j hj hji e
    exact List.mem_take_iff_getElem.2 ⟨j, by omega, e⟩
  · intro h hm
    obtain ⟨j, hj, e⟩ := List.mem_take_iff_getElem.1 hm
    exact h j (by omega) (by omega) e
set_option maxRecDepth 100000 in
set_option maxHeartbeats 8000000 in
theorem rdepCheck_any (p : ProgD) (w : World) (o : ProgOk w p) :
    Calls Tryz.prog 101 #[.agg (progCells p)] w fun e w' => e = .returned (.tuple #[.int .i64 (depM p).1, .int .i64 (depM p).2]) ∧ Below w.heap.size w w' := by
  obtain ⟨W, hW, hw, HB, hp⟩ := box1 w (progCells p) 31
  have HW := Lib.hid hw
  have HX := Lib.hid (o.deparser.below hw (Nat.le_refl _))
  have HR := Lib.hid (depM.eq_1 p)
  have HS := Lib.hid (depAtM_at p p.deparser.l)
  clear o hw
  by_cases h1 : 8 < p.deparser.l.length
  · replace HR := Lib.hid (HR.out.trans (if_pos h1))
    go_enter Tryz.func101, Tryz.ntmps101
    go_upto_region 1 with fail
    rw [← hW]
    clear hW
    go_wp2
    go_ret2
    exact ⟨ret_pp HR.out, below_step HW.out HB⟩
  replace HR := Lib.hid (HR.out.trans (if_neg h1))
  have h3 : p.deparser.l.length ≤ 8 := by omega
  clear h1
  have HB1 := Lib.hid HB
  simp only [progCells] at hp hW ⊢
  generalize hx : p.deparser = x at *
  clear hx
  obtain ⟨l, A0, c0⟩ := x
  simp only at HR HS HX hp h3 ⊢
  go_enter Tryz.func101, Tryz.ntmps101
  go_upto_region 1 with fail
  rw [← hW]
  clear hW
  go_wp2
  clear HB
  go_loopw [4, 5] (fun iv _ wr => ∃ k : Nat, k ≤ l.length ∧ iv = .int .i64 k ∧ (∀ j, j < k → depAtM p l j = none) ∧ Below W.heap.size W wr) (fun i _ _ => l.length - (intOf i).toNat)
  case atStart => exact ⟨0, Nat.zero_le _, rfl, fun j h => absurd h (Nat.not_lt_zero _), HB1.out⟩
  case round =>
  obtain ⟨i, hi, rfl, hpre, HB⟩ := hrel
  have HPre := Lib.hid hpre
  clear hpre HB1
  have hp3 := hp wr HB
  by_cases hlt : i < l.length
  · obtain ⟨g, of, hA, hall⟩ := icell_allA HX.out (show 0 < l.length by omega)
    simp only at hA hall
    subst hA
    have HAL := Lib.hid hall
    have HALi := Lib.hid (fun w' h => hall w' h i hlt)
    have HE := Lib.hid (HS.out i hlt)
    have HD := Lib.hid (mem_take hlt)
    have hlt' : (i : Int) < (l.length : Int) := by omega
    clear hall
    generalize l[i] = y at *
    have d0 := HALi.out wr HB
    have hcase : y < 0 ∨ (0 ≤ y ∧ (p.headers.l.length : Int) ≤ y) ∨ (0 ≤ y ∧ y < (p.headers.l.length : Int)) := by omega
    rcases hcase with h1 | ⟨h1, h2⟩ | ⟨h1, h2⟩
    · have HE2 := Lib.hid (HE.out.trans (if_pos (Or.inl h1)))
      have HR2 := Lib.hid (HR.out.trans (show _ = ((i : Int), (8 : Int)) by rw [firstE_some hlt HPre.out HE2.out]))
      have b1 : decide (y < 0) = true := decide_eq_true h1
      go_wp2
      go_quiet (fail)
      go_wp2
      go_ret2
      exact ⟨ret_pp HR2.out, below_step HW.out (below_drewN HB _)⟩
    · have HE2 := Lib.hid (HE.out.trans (if_pos (Or.inr h2)))
      have HR2 := Lib.hid (HR.out.trans (show _ = ((i : Int), (8 : Int)) by rw [firstE_some hlt HPre.out HE2.out]))
      have b1 : decide (y < 0) = false := decide_eq_false (by omega)
      go_wp2
      go_quiet (fail)
      go_wp2
      go_ret2
      exact ⟨ret_pp HR2.out, below_step HW.out (below_drewN HB _)⟩
    have HE2 := Lib.hid (HE.out.trans (if_neg (show ¬ (y < 0 ∨ (p.headers.l.length : Int) ≤ y) by omega)))
    have b1 : decide (y < 0) = false := decide_eq_false (by omega)
    have HB0 := Lib.hid HB
    go_wp2
    go_quiet (fail)
    go_wp2
    clear HB d0 hp3
    go_loopw [5] (fun iv wr => ∃ k : Nat, k ≤ i ∧ iv = .int .i64 k ∧ Hid (∀ j (hj : j < l.length), j < k → l[j] ≠ y) ∧ Below W.heap.size W wr) (fun k _ => i - (intOf k).toNat)
    case atStart => exact ⟨0, Nat.zero_le _, rfl, Lib.hid (fun j _ hj => absurd hj (Nat.not_lt_zero _)), below_drewN HB0.out _⟩
    case round =>
    clear HB0
    obtain ⟨k, hk, rfl, HK, HB⟩ := hrel
    have d0 := HALi.out _ HB
    have hp3 := hp _ HB
    by_cases hki : k < i
    · have hkl : k < l.length := by omega
      have hkl' : (k : Int) < (l.length : Int) := by omega
      have e0 := HAL.out _ HB k hkl
      have HY : Hid (l[k] = y → y ∈ l.take i) := Lib.hid (fun e => HD.out.1 k hkl hki e)
      have HZ : Hid (l[k] ≠ y → ∀ j (hj : j < l.length), j < k + 1 → l[j] ≠ y) := Lib.hid (fun hne => pre_ne (f := fun _ (a : Int) => a ≠ y) HK.out hne)
      generalize l[k] = t at *
      by_cases ht : t = y
      · have HR2 := Lib.hid (HR.out.trans (show _ = ((i : Int), (7 : Int)) by rw [firstE_some hlt HPre.out (HE2.out.trans (if_pos (HY.out ht)))]))
        have ht' : (t == y) = true := beq_iff_eq.2 ht
        clear ht HY HZ
        go_wp2
        go_quiet (fail)
        go_wp2
        go_ret2
        exact ⟨ret_pp HR2.out, below_step HW.out (below_drewN HB _)⟩
      · have HZ2 := Lib.hid (HZ.out ht)
        have ht' : (t == y) = false := beq_eq_false_iff_ne.2 ht
        clear ht HY HZ
        go_wp2
        go_quiet (fail)
        go_wp2
        go_roundw
        case rel => exact ⟨k + 1, by omega, by go_num, HZ2, below_drewN HB _⟩
        case measure => simp [intOf]; omega
    · have e : k = i := by omega
      subst e
      have HP2 := Lib.hid (firstE_step HPre.out (HE2.out.trans (if_neg (HD.out.2 HK.out))))
      go_wp2
      go_roundw
      case rel => exact ⟨k + 1, by omega, by go_num, HP2.out, HB⟩
      case measure => simp [intOf]; omega
  · have e : i = l.length := by omega
    have HR2 := Lib.hid (HR.out.trans (show _ = ((0 : Int), (0 : Int)) by rw [firstE_none (by rw [← e]; exact HPre.out)]))
    go_wp2
    go_ret2
    exact ⟨ret_pp HR2.out, below_step HW.out HB⟩
end Go.Proofs.YtbfjknidinkafaaGreat

