/- The walk of package parser's check of a state on any program. No condition but that the program lies in memory and its numbers are of their kinds. -/
import Derived.Test.YtbfjknidinkafaaGreatCkP
namespace Go.Proofs.YtbfjknidinkafaaGreat
open Go.RowKit

theorem any_yes {α : Type} {f : α → Bool} {l : List α} {k : Nat} (hk : k < l.length) (h : f l[k] = true) : l.any f = true := List.any_eq_true.2 ⟨_, List.getElem_mem hk, h⟩
theorem any_no {α : Type} {f : α → Bool} {l : List α} (h : ∀ j (hj : j < l.length), f l[j] = false) : l.any f = false := by
  rw [Bool.eq_false_iff]
  intro e
  obtain ⟨x, hx, hf⟩ := List.any_eq_true.1 e
  obtain ⟨j, hj, rfl⟩ := List.mem_iff_getElem.1 hx
  rw [h j hj] at hf
  cases hf
/-- a header's number is out of the list -/
def badH (p : ProgD) (h : Int) : Bool := decide (h < 0) || decide ((p.headers.l.length : Int) ≤ h)
theorem stateM_eq (p : ProgD) (i : Nat) (s : StateD) : stateM p i s = if 4 < s.extract.l.length ∨ 8 < s.cases.l.length then (-1, 12)
  else if s.extract.l.any (badH p) = true then (-1, 8)
  else if s.sel = true ∧ widthAt p s.oh s.of = 0 then (-1, 8)
  else if s.sel = false ∧ 0 < s.cases.l.length then (-1, 11)
  else match firstE s.cases.l.length (caseAtM p i (widthAt p s.oh s.of) s.cases.l) with
    | some r => r
    | none => if leadsM p i s.dflt = false then (-1, 14) else (0, 0) := rfl
theorem caseAtM_at (p : ProgD) (i : Nat) (w : Int) (l : List CaseD) (k : Nat) (h : k < l.length) : caseAtM p i w l k = if caseM p i w l[k] ≠ 0 then some ((k : Int), caseM p i w l[k]) else none := by
  rw [caseAtM, List.getElem?_eq_getElem h]

set_option maxRecDepth 100000 in
set_option maxHeartbeats 8000000 in
theorem checkState_any (p : ProgD) (i : Nat) (hi : i < p.states.l.length) (w : World) (o : ProgOk w p) (hc : ∀ c ∈ p.states.l[i].cases.l, (Lit.int .u32 c.value).wf = true ∧ (Lit.int .u32 c.mask).wf = true) :
    Calls Tryz.prog 174 #[.agg (progCells p), .int .i64 i] w fun e w' => e = .returned (.tuple #[.int .i64 (stateM p i p.states.l[i]).1, .int .i64 (stateM p i p.states.l[i]).2]) ∧ Below w.heap.size w w' := by
  have HO := Lib.hid o
  have HC := Lib.hid hc
  obtain ⟨W, hW, hw, HB, hp⟩ := box1 w (progCells p) 31
  have HW := Lib.hid hw
  have HA : Hid (StateOk W p.states.l[i]) := Lib.hid ((o.state _ (List.getElem_mem hi)).below hw)
  have HR := Lib.hid (stateM_eq p i p.states.l[i])
  obtain ⟨g, of, hA, hq⟩ := StateD.atA (o.states.below hw (Nat.le_refl _)) hi
  have hn1 : (i : Int) < (p.states.l.length : Int) := by omega
  have HCC : Hid (∀ (c : CaseD) (w : World), c ∈ p.states.l[i].cases.l → ProgOk w p → Calls Tryz.prog 203 #[.agg (progCells p), .int .i64 i, .agg (caseCells c)] w fun e w' => e = .returned (.int .i64 (caseM p i (widthAt p p.states.l[i].oh p.states.l[i].of) c)) ∧ Below w.heap.size w w') :=
    Lib.hid (fun c w hm o => checkCase_any p i hi c w o (HC.out c hm).1 (HC.out c hm).2)
  clear o hw hc HC
  generalize p.states.l[i] = s at *
  obtain ⟨sn, ⟨xl, xA, xc⟩, sel, oh, sf, ⟨cl, cA, cc⟩, df⟩ := s
  simp only at HR hq HCC
  have HAA := Lib.hid hA
  simp only [progCells, hA] at hp hW ⊢
  clear hA
  have HX := Lib.hid HA.out.extract
  have HK := Lib.hid HA.out.cases
  simp only at HX HK
  have hm1 := HX.out.1
  have hm2 := HK.out.1
  unfold maxLen at hm1 hm2
  simp only at hm1 hm2
  have HS := Lib.hid (caseAtM_at p i (widthAt p oh sf) cl)
  go_enter Tryz.func174, Tryz.ntmps174
  go_upto_region 1 with fail
  rw [← hW]
  clear hW
  refine Exists.elim (box1 W #[.string sn, .slice xA xl.length xc, .bool sel, .int .i64 oh, .int .i64 sf, .slice cA cl.length cc, .int .i64 df] 132) ?_
  rintro U ⟨hU, hu, hUU, hc⟩
  go_upto_region 2 with fail
  rw [← hU]
  clear hU
  have HU := Lib.hid hu
  have hp2 := fun w' h => hp w' (below_step hu h)
  replace HB := hUU
  have HUU := Lib.hid hUU
  clear hp hUU hu hq
  by_cases h2 : 4 < xl.length ∨ 8 < cl.length
  · replace HR := Lib.hid (HR.out.trans (if_pos h2))
    have h2' : 4 < xl.length ∨ (xl.length ≤ 4 ∧ 8 < cl.length) := by omega
    rcases h2' with h2 | ⟨h2, h3⟩
    all_goals
      go_wp2
      go_ret2
      exact ⟨ret_pp HR.out, below_step HW.out (below_step HU.out HB)⟩
  replace HR := Lib.hid (HR.out.trans (if_neg h2))
  have h3 : xl.length ≤ 4 := by omega
  have h4 : cl.length ≤ 8 := by omega
  clear h2
  go_wp2
  clear HB
  go_loopw [8, 30] (fun _ iv wr => ∃ k : Nat, k ≤ xl.length ∧ iv = .int .i64 k ∧ (∀ j (hj : j < xl.length), j < k → badH p xl[j] = false) ∧ Below U.heap.size U wr) (fun _ i _ => xl.length - (intOf i).toNat)
  case atStart => exact ⟨0, Nat.zero_le _, rfl, fun j _ h => absurd h (Nat.not_lt_zero _), HUU.out⟩
  case round =>
    obtain ⟨k, hk, rfl, hpre, HB⟩ := hrel
    have HPre := Lib.hid hpre
    clear hpre
    by_cases hlt : k < xl.length
    · obtain ⟨g2, of2, hA, d0⟩ := icell_at (HX.out.below (below_step HU.out HB) (Nat.le_refl _)) hlt
      have HE := Lib.hid (any_yes (f := badH p) hlt)
      have HN : Hid (badH p xl[k] = false → ∀ j (hj : j < xl.length), j < k + 1 → badH p xl[j] = false) := Lib.hid (fun hf j hj h => by
        rcases Nat.lt_succ_iff_lt_or_eq.1 h with h1 | rfl
        · exact HPre.out j hj h1
        · exact hf)
      simp only at hA d0
      subst hA
      generalize xl[k] = x at *
      have hcase : x < 0 ∨ (0 ≤ x ∧ (p.headers.l.length : Int) ≤ x) ∨ (0 ≤ x ∧ x < (p.headers.l.length : Int)) := by omega
      rcases hcase with h1 | ⟨h1, h2⟩ | ⟨h1, h2⟩
      · have HR2 := Lib.hid (HR.out.trans (if_pos (HE.out (by simp [badH, h1]))))
        go_wp2
        go_ret2
        exact ⟨ret_pp HR2.out, below_step HW.out (below_step HU.out HB)⟩
      · have HR2 := Lib.hid (HR.out.trans (if_pos (HE.out (by simp [badH, h2]))))
        go_wp2
        go_ret2
        exact ⟨ret_pp HR2.out, below_step HW.out (below_step HU.out HB)⟩
      · have HN2 := Lib.hid (HN.out (by simp [badH]; omega))
        go_wp2
        go_roundw
        case rel => exact ⟨k + 1, by omega, by go_num, HN2.out, HB⟩
        case measure => simp [intOf]; omega
    have e : k = xl.length := by omega
    have hno : Hid (¬ xl.any (badH p) = true) := Lib.hid (by rw [any_no (fun j hj => HPre.out j hj (by omega))]; simp)
    clear hlt
    replace HR := Lib.hid (HR.out.trans (if_neg hno.out))
    have hkx : ¬ ((k : Int) < (xl.length : Int)) := by omega
    subst e
    clear HPre hk
    cases sel
    · replace HR := Lib.hid (HR.out.trans (if_neg (by simp)))
      by_cases h5 : 0 < cl.length
      · replace HR := Lib.hid (HR.out.trans (if_pos (by simp [h5])))
        go_wp2
        go_ret2
        exact ⟨ret_pp HR.out, below_step HW.out (below_step HU.out HB)⟩
      · replace HR := Lib.hid (HR.out.trans (if_neg (fun h => h5 h.2)))
        have h6 : cl.length = 0 := by omega
        have HR2 := Lib.hid (HR.out.trans (show _ = (if leadsM p i df = false then ((-1 : Int), (14 : Int)) else (0, 0)) by rw [h6]; rfl))
        have h7 : ¬ (0 : Int) < (cl.length : Int) := by omega
        have h8 : (cl.length : Int) ≤ 0 := by omega
        clear h5 h6
        go_wp2
        refine wp_loop_rounds 1 ?_
        rw [rounds_succ]
        go_wp2_with fail
        have hCN := leads_any p i df wr
        simp only [progCells, HAA.out] at hCN
        refine hCN.mono ?_
        clear hCN
        rintro e w4 ⟨rfl, hbN⟩
        replace HB := below_step (by first | exact HB | exact below_alloc HB _ | exact below_alloc (below_alloc HB _) _ | exact below_alloc (below_alloc (below_alloc HB _) _) _) hbN
        clear hbN
        cases h4 : leadsM p i df
        · replace HR2 := Lib.hid (HR2.out.trans (if_pos h4))
          go_wp2
          go_ret2
          exact ⟨ret_pp HR2.out, below_step HW.out (below_step HU.out HB)⟩
        · replace HR2 := Lib.hid (HR2.out.trans (if_neg (by rw [h4]; simp)))
          go_wp2
          go_ret2
          exact ⟨ret_pp HR2.out, below_step HW.out (below_step HU.out HB)⟩
    · go_wp2_with fail
      have hCN := pwidth_any p oh sf wr (HO.out.below (below_step HW.out (below_step HU.out HB)))
      simp only [progCells, HAA.out] at hCN
      refine hCN.mono ?_
      clear hCN
      rintro e w1 ⟨rfl, hbN⟩
      replace HB := below_step (by first | exact HB | exact below_alloc HB _ | exact below_alloc (below_alloc HB _) _ | exact below_alloc (below_alloc (below_alloc HB _) _) _) hbN
      clear hbN
      by_cases h5 : widthAt p oh sf = 0
      · replace HR := Lib.hid (HR.out.trans (if_pos (by simp [h5])))
        have h5' : (widthAt p oh sf == 0) = true := beq_iff_eq.2 h5
        clear h5
        go_wp2
        go_ret2
        exact ⟨ret_pp HR.out, below_step HW.out (below_step HU.out HB)⟩
      · replace HR := Lib.hid (HR.out.trans ((if_neg (fun h => h5 h.2)).trans (if_neg (by simp))))
        have h5' : (widthAt p oh sf == 0) = false := beq_eq_false_iff_ne.2 h5
        have HB0 := Lib.hid HB
        clear h5
        go_wp2
        clear HB
        go_loopw [9, 10, 11, 67] (fun _ _ _ iv wr => ∃ k : Nat, k ≤ cl.length ∧ iv = .int .i64 k ∧ (∀ j, j < k → caseAtM p i (widthAt p oh sf) cl j = none) ∧ Below U.heap.size U wr) (fun _ _ _ i _ => cl.length - (intOf i).toNat)
        case atStart => exact ⟨0, Nat.zero_le _, rfl, fun j h => absurd h (Nat.not_lt_zero _), HB0.out⟩
        case round =>
          obtain ⟨k, hk, rfl, hpre, HB⟩ := hrel
          have HPre := Lib.hid hpre
          clear hpre
          by_cases hlt : k < cl.length
          · obtain ⟨g2, of2, hA, d0, d1, d2⟩ := CaseD.at (HK.out.below (below_step HU.out HB) (Nat.le_refl _)) hlt
            have HE := Lib.hid (HS.out k hlt)
            have HCk := Lib.hid (fun w o => HCC.out cl[k] w (List.getElem_mem hlt) o)
            simp only at hA d0 d1 d2
            subst hA
            generalize cl[k] = c at *
            obtain ⟨cv, cm, cn⟩ := c
            simp only at d0 d1 d2
            have hp3 := hp2 wr HB
            have hca := @World.cell?_alloc_some
            go_wp2_with fail
            have hCN := HCk.out (wr.alloc (.cells (caseCells ⟨cv, cm, cn⟩) 245)) (HO.out.below (below_step HW.out (below_step HU.out (by first | exact HB | exact below_alloc HB _ | exact below_alloc (below_alloc HB _) _ | exact below_alloc (below_alloc (below_alloc HB _) _) _))))
            simp only [progCells, HAA.out] at hCN
            refine hCN.mono ?_
            clear hCN
            rintro e w4 ⟨rfl, hbN⟩
            replace HB := below_step (by first | exact HB | exact below_alloc HB _ | exact below_alloc (below_alloc HB _) _ | exact below_alloc (below_alloc (below_alloc HB _) _) _) hbN
            clear hbN
            clear hp3
            generalize hcv : caseM p i (widthAt p oh sf) ⟨cv, cm, cn⟩ = ce at *
            by_cases k1 : ce = 0
            · subst k1
              have HE2 := Lib.hid (HE.out.trans (if_neg (by simp)))
              go_wp2
              go_roundw
              case rel => exact ⟨k + 1, by omega, by go_num, firstE_step HPre.out HE2.out, HB⟩
              case measure => simp [intOf]; omega
            · have k1' : (ce == 0) = false := beq_eq_false_iff_ne.2 k1
              have HE2 := Lib.hid (HE.out.trans (if_pos k1))
              have HR2 := Lib.hid (HR.out.trans (show _ = ((k : Int), ce) by rw [firstE_some hlt HPre.out HE2.out]))
              go_wp2
              go_ret2
              exact ⟨ret_pp HR2.out, below_step HW.out (below_step HU.out HB)⟩
          · have e : k = cl.length := by omega
            have HR2 := Lib.hid (HR.out.trans (show _ = (if leadsM p i df = false then ((-1 : Int), (14 : Int)) else (0, 0)) by rw [firstE_none (by rw [← e]; exact HPre.out)]))
            go_wp2_with fail
            have hCN := leads_any p i df wr
            simp only [progCells, HAA.out] at hCN
            refine hCN.mono ?_
            clear hCN
            rintro e w4 ⟨rfl, hbN⟩
            replace HB := below_step (by first | exact HB | exact below_alloc HB _ | exact below_alloc (below_alloc HB _) _ | exact below_alloc (below_alloc (below_alloc HB _) _) _) hbN
            clear hbN
            cases h4 : leadsM p i df
            · replace HR2 := Lib.hid (HR2.out.trans (if_pos h4))
              go_wp2
              go_ret2
              exact ⟨ret_pp HR2.out, below_step HW.out (below_step HU.out HB)⟩
            · replace HR2 := Lib.hid (HR2.out.trans (if_neg (by rw [h4]; simp)))
              go_wp2
              go_ret2
              exact ⟨ret_pp HR2.out, below_step HW.out (below_step HU.out HB)⟩
end Go.Proofs.YtbfjknidinkafaaGreat

