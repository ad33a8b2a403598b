/- Walks of the reference's checks: register, params, sized. No condition but that the data lie in memory. -/
import Derived.Test.YtbfjknidinkafaaGreatRcF
import Derived.Test.YtbfjknidinkafaaGreatRfA
namespace Go.Proofs.YtbfjknidinkafaaGreat
open Go.RowKit

set_option maxHeartbeats 4000000 in
theorem rreg_any (r : RegD) (hn : r.name.size ≤ maxLen) (w : World) :
    Calls Tryz.prog 96 #[.agg #[.string r.name, .int .i64 r.width, .int .i64 r.size]] w fun e w' => e = .returned (.int .i64 (regM r)) ∧ Below w.heap.size w w' := by
  obtain ⟨nm, wd, sz⟩ := r
  have HS := Lib.hid hn
  have HR := Lib.hid (regM.eq_1 ⟨nm, wd, sz⟩)
  simp only at HR HS ⊢
  clear hn
  obtain ⟨W, hW, hw, HB, hp⟩ := box1 w #[.string nm, .int .i64 wd, .int .i64 sz] 120
  have HW := Lib.hid hw
  clear hw
  go_enter Tryz.func96, Tryz.ntmps96
  go_upto_region 1 with fail
  rw [← hW]
  clear hW
  go_wp2_with fail
  refine (risIdent_any nm _ HS.out).mono ?_
  rintro e w' ⟨rfl, rfl⟩
  cases h1 : identM nm.data.toList
  · have HR3 := Lib.hid (HR.out.trans (if_pos (show ident nm = false from h1)))
    go_wp2
    go_ret
    exact ⟨by rw [HR3.out]; rfl, below_step HW.out HB⟩
  have HR1 := Lib.hid (HR.out.trans (if_neg (show ¬ ident nm = false by rw [show ident nm = true from h1]; simp)))
  clear h1 HR
  by_cases k1 : wd < 1
  · have HR3 := Lib.hid (HR1.out.trans (if_pos (okW_not.2 (.inl k1))))
    go_wp2
    go_ret
    exact ⟨by rw [HR3.out]; rfl, below_step HW.out HB⟩
  by_cases k2 : 32 < wd
  · have HR3 := Lib.hid (HR1.out.trans (if_pos (okW_not.2 (.inr k2))))
    go_wp2
    go_ret
    exact ⟨by rw [HR3.out]; rfl, below_step HW.out HB⟩
  have HR2 := Lib.hid (HR1.out.trans (if_neg (by rw [okW_iff.2 ⟨by omega, by omega⟩]; simp)))
  clear HR1
  by_cases k3 : sz < 1
  · have HR3 := Lib.hid (HR2.out.trans (if_pos (.inl k3)))
    go_wp2
    go_ret
    exact ⟨by rw [HR3.out]; rfl, below_step HW.out HB⟩
  by_cases k4 : 64 < sz
  · have HR3 := Lib.hid (HR2.out.trans (if_pos (.inr k4)))
    go_wp2
    go_ret
    exact ⟨by rw [HR3.out]; rfl, below_step HW.out HB⟩
  have HR3 := Lib.hid (HR2.out.trans (if_neg (fun h => h.elim k3 k4)))
  go_wp2
  go_ret
  exact ⟨by rw [HR3.out]; rfl, below_step HW.out HB⟩

/-- what an inner loop over earlier names tells -/
theorem dup_tells {α : Type} {f : α → ByteArray} {l : List α} {i : Nat} (hi : i < l.length) :
    (∀ j (hj : j < l.length), j < i → f l[j] = f l[i] → dupB (l.map f) i = true) ∧ ((∀ j (hj : j < l.length), j < i → f l[j] ≠ f l[i]) → dupB (l.map f) i = false) := by
  have hi' : i < (l.map f).length := by rw [List.length_map]; exact hi
  constructor
  · intro j hj hji e
    exact (dupB_iff hi').2 ⟨j, by rw [List.length_map]; exact hj, hji, by simpa using e⟩
  · intro h
    rw [← Bool.not_eq_true, dupB_iff hi']
    rintro ⟨k, hk, hki, e⟩
    rw [List.length_map] at hk
    exact h k hk hki (by simpa using e)
/-- the first error of a list of fields -/
def fldsM (l : List FieldD) : Int := match firstE l.length (fldM l) with
  | some e => e
  | none => 0
theorem fldsM_some {l : List FieldD} {r : Int} {i : Nat} (hi : i < l.length) (h : ∀ j, j < i → fldM l j = none) (hr : fldM l i = some r) : fldsM l = r := by
  rw [fldsM, firstE_some hi h hr]
theorem fldsM_none {l : List FieldD} (h : ∀ j, j < l.length → fldM l j = none) : fldsM l = 0 := by
  rw [fldsM, firstE_none h]
theorem pre_step {α : Type} {f : Nat → Option α} {i : Nat} (h : ∀ j, j < i → f j = none) (hi : f i = none) : ∀ j, j < i + 1 → f j = none := fun j hj => by
  rcases Nat.lt_succ_iff_lt_or_eq.1 hj with h1 | rfl
  · exact h j h1
  · exact hi
theorem pre_ne {α : Type} {f : Nat → α → Prop} {l : List α} {k : Nat} (h : ∀ j (hj : j < l.length), j < k → f j l[j]) {hk : k < l.length} (hn : f k l[k]) : ∀ j (hj : j < l.length), j < k + 1 → f j l[j] := fun j hj hjk => by
  rcases Nat.lt_succ_iff_lt_or_eq.1 hjk with h1 | rfl
  · exact h j hj h1
  · exact hn
set_option maxRecDepth 100000 in
set_option maxHeartbeats 8000000 in
theorem rparams_any (x : L FieldD) (w : World) (h : LOk w 2 FieldD.cells x) (hn : ∀ f ∈ x.l, f.name.size ≤ maxLen) :
    Calls Tryz.prog 144 #[.slice x.A x.l.length x.c] w fun e w' => e = .returned (.int .i64 (fldsM x.l)) ∧ Below w.heap.size w w' := by
  obtain ⟨l, A0, c0⟩ := x
  have HX := Lib.hid h
  have HN := Lib.hid hn
  have hmx : l.length ≤ 9223372036854775807 := h.1
  clear h hn
  simp only at *
  go_enter Tryz.func144, Tryz.ntmps144
  go_wp2
  go_loopw [3] (fun iv wr => ∃ i : Nat, i ≤ l.length ∧ iv = .int .i64 i ∧ (∀ j, j < i → fldM l j = none) ∧ Below w.heap.size w wr) (fun i _ => l.length - (intOf i).toNat)
  case atStart => exact ⟨0, Nat.zero_le _, rfl, fun j hj => absurd hj (Nat.not_lt_zero _), Below.refl _ _⟩
  case round =>
  obtain ⟨i, hi, rfl, hpre, HB⟩ := hrel
  have HPre := Lib.hid hpre
  clear hpre
  by_cases hlt : i < l.length
  · obtain ⟨g, of, hA, hall⟩ := FieldD.allA HX.out (show 0 < l.length by omega)
    simp only at hA hall
    subst hA
    have HAL := Lib.hid hall
    have HALi := Lib.hid (fun w' h => hall w' h i hlt)
    have HF := Lib.hid (fldM_at l i hlt)
    have HNk := Lib.hid (HN.out _ (List.getElem_mem hlt))
    have HD := Lib.hid (dup_tells (f := FieldD.name) hlt)
    clear hall
    generalize l[i] = y at *
    obtain ⟨yn, yw⟩ := y
    simp only at HALi HF HNk HD
    obtain ⟨d0, d1⟩ := HALi.out wr HB
    go_wp2_with fail
    refine (risIdent_any yn _ HNk.out).mono ?_
    rintro e w' ⟨rfl, rfl⟩
    cases h1 : identM yn.data.toList
    · have HE := Lib.hid (HF.out.trans (if_pos (show ident yn = false from h1)))
      have HR := Lib.hid (fldsM_some hlt HPre.out HE.out)
      go_wp2
      go_ret
      exact ⟨by rw [HR.out]; rfl, HB⟩
    have HF1 := Lib.hid (HF.out.trans (if_neg (show ¬ ident yn = false by rw [show ident yn = true from h1]; simp)))
    clear HF h1
    by_cases k1 : yw < 1
    · have HR := Lib.hid (fldsM_some hlt HPre.out (HF1.out.trans (if_pos (okW_not.2 (.inl k1)))))
      go_wp2
      go_ret
      exact ⟨by rw [HR.out]; rfl, HB⟩
    by_cases k2 : 32 < yw
    · have HR := Lib.hid (fldsM_some hlt HPre.out (HF1.out.trans (if_pos (okW_not.2 (.inr k2)))))
      go_wp2
      go_ret
      exact ⟨by rw [HR.out]; rfl, HB⟩
    have HF2 := Lib.hid (HF1.out.trans (if_neg (by rw [okW_iff.2 ⟨by omega, by omega⟩]; simp)))
    clear HF1
    go_wp2
    have HB0 := Lib.hid HB
    clear HB d0 d1
    go_loopw [4] (fun iv wr => ∃ k : Nat, k ≤ i ∧ iv = .int .i64 k ∧ Hid (∀ j (hj : j < l.length), j < k → l[j].name ≠ yn) ∧ Below w.heap.size w wr) (fun k _ => i - (intOf k).toNat)
    case atStart => exact ⟨0, Nat.zero_le _, rfl, Lib.hid (fun j _ hj => absurd hj (Nat.not_lt_zero _)), HB0.out⟩
    case round =>
    clear HB0
    obtain ⟨k, hk, rfl, HK, HB⟩ := hrel
    obtain ⟨d0, d1⟩ := HALi.out _ HB
    by_cases hki : k < i
    · have hkl : k < l.length := by omega
      obtain ⟨e0, e1⟩ := HAL.out _ HB k hkl
      have HY : Hid (l[k].name = yn → dupB (l.map FieldD.name) i = true) := Lib.hid (fun e => HD.out.1 k hkl hki e)
      have HZ : Hid (l[k].name ≠ yn → ∀ j (hj : j < l.length), j < k + 1 → l[j].name ≠ yn) := Lib.hid (fun hne => pre_ne (f := fun _ (a : FieldD) => a.name ≠ yn) HK.out hne)
      generalize l[k].name = t at *
      by_cases ht : t = yn
      · have HR := Lib.hid (fldsM_some hlt HPre.out (HF2.out.trans (if_pos (HY.out ht))))
        have ht' := toList_true ht
        clear ht HY HZ
        go_wp2
        go_quiet (fail)
        go_wp2
        go_ret
        exact ⟨by rw [HR.out]; rfl, below_drewN HB _⟩
      · have HZ2 := Lib.hid (HZ.out ht)
        have ht' := toList_false ht
        clear ht HY HZ
        go_wp2
        go_quiet (fail)
        go_wp2
        go_roundw
        case rel => exact ⟨k + 1, by omega, by go_num, HZ2, below_drewN HB _⟩
        case measure => simp [intOf]; omega
    · have e : k = i := by omega
      subst e
      have HE := Lib.hid (HF2.out.trans (if_neg (by rw [HD.out.2 HK.out]; simp)))
      have HP2 := Lib.hid (pre_step HPre.out HE.out)
      go_wp2
      go_roundw
      case rel => exact ⟨k + 1, by omega, by go_num, HP2.out, HB⟩
      case measure => simp [intOf]; omega
  · have e : i = l.length := by omega
    subst e
    have HR := Lib.hid (fldsM_none HPre.out)
    go_wp2
    go_ret
    exact ⟨by rw [HR.out]; rfl, HB⟩
set_option maxRecDepth 100000 in
set_option maxHeartbeats 2000000 in
theorem rsized_any (p : ProgD) (ps : L FieldD) (x : L NodeD) (n : Int) (w : World) (o : ProgOk w p) (hps : LOk w 2 FieldD.cells ps) (hx : LOk w 3 NodeD.cells x) :
    Calls Tryz.prog 184 #[.slice x.A x.l.length x.c, .agg (scopeCells p ps), .int .i64 n] w fun e w' => e = .returned (.int .i64 (sizedM p ps.l x.l n)) ∧ Below w.heap.size w w' := by
  have HO := Lib.hid o
  have HP := Lib.hid hps
  have HX := Lib.hid hx
  clear o hps hx
  obtain ⟨W, hW, hw, HB, hp⟩ := box1 w (scopeCells p ps) 196
  have HW := Lib.hid hw
  have HR := Lib.hid (sizedM.eq_1 p ps.l x.l n)
  clear hw
  go_enter Tryz.func184, Tryz.ntmps184
  go_upto_region 1 with fail
  rw [← hW]
  clear hW
  go_wp2_with fail
  refine (rexprCheck_any p ps x _ (HO.out.below (below_step HW.out (by first | exact HB | exact below_alloc HB _ | exact below_alloc (below_alloc HB _) _ | exact below_alloc (below_alloc (below_alloc HB _) _) _))) (HP.out.below (below_step HW.out (by first | exact HB | exact below_alloc HB _ | exact below_alloc (below_alloc HB _) _ | exact below_alloc (below_alloc (below_alloc HB _) _) _)) (Nat.le_refl _)) (HX.out.below (below_step HW.out (by first | exact HB | exact below_alloc HB _ | exact below_alloc (below_alloc HB _) _ | exact below_alloc (below_alloc (below_alloc HB _) _) _)) (Nat.le_refl _))).mono ?_
  rintro e w1 ⟨rfl, hbN⟩
  replace HB := below_step (by first | exact HB | exact below_alloc HB _ | exact below_alloc (below_alloc HB _) _ | exact below_alloc (below_alloc (below_alloc HB _) _) _) hbN
  clear hbN
  generalize exprM p ps.l x.l = r at *
  obtain ⟨a, c⟩ := r
  simp only at HR
  by_cases k1 : c = 0
  · subst k1
    by_cases k2 : a = n
    · have HR2 : Hid (sizedM p ps.l x.l n = 0) := Lib.hid (by rw [HR.out]; simp [k2])
      subst k2
      go_wp2
      go_ret
      exact ⟨by rw [HR2.out]; rfl, below_step HW.out HB⟩
    · have HR2 : Hid (sizedM p ps.l x.l n = 10) := Lib.hid (by rw [HR.out]; simp [k2])
      have k2' : (a == n) = false := beq_eq_false_iff_ne.2 k2
      clear k2
      go_wp2
      go_ret
      exact ⟨by rw [HR2.out]; rfl, below_step HW.out HB⟩
  · have HR2 : Hid (sizedM p ps.l x.l n = c) := Lib.hid (by rw [HR.out]; simp [k1])
    have k1' : (c == 0) = false := beq_eq_false_iff_ne.2 k1
    clear k1
    go_wp2
    go_ret
    exact ⟨by rw [HR2.out]; rfl, below_step HW.out HB⟩
end Go.Proofs.YtbfjknidinkafaaGreat

