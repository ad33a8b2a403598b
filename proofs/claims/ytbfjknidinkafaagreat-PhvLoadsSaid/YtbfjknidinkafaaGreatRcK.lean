/- The walks of the reference's check of a parser state: next, cases, state. No condition but that the program lies in memory and its numbers are of their kinds. -/
import Derived.Test.YtbfjknidinkafaaGreatRcJ
import Derived.Test.YtbfjknidinkafaaGreatCkR
namespace Go.Proofs.YtbfjknidinkafaaGreat
open Go.RowKit

set_option maxRecDepth 100000 in
theorem rnext_any (p : ProgD) (s : Nat) (n : Int) (w : World) :
    Calls Tryz.prog 190 #[.agg (progCells p), .int .i64 s, .int .i64 n] w fun e w' => e = .returned (.bool (leadsM p s n)) ∧ Below w.heap.size w w' := by
  by_cases h1 : n = -1
  · subst h1
    have HR := Lib.hid (show leadsM p s (-1) = true by simp [leadsM])
    go_enter Tryz.func190, Tryz.ntmps190
    go_wp2
    go_ret
    exact ⟨by rw [HR.out]; rfl, below1 _ _⟩
  by_cases h2 : n = -2
  · subst h2
    have HR := Lib.hid (show leadsM p s (-2) = true by simp [leadsM])
    go_enter Tryz.func190, Tryz.ntmps190
    go_wp2
    go_ret
    exact ⟨by rw [HR.out]; rfl, below1 _ _⟩
  have k1 : (n == -1) = false := beq_eq_false_iff_ne.2 h1
  have k2 : (n == -2) = false := beq_eq_false_iff_ne.2 h2
  have hc : n ≤ s ∨ ((s : Int) < n ∧ n < p.states.l.length) ∨ ((s : Int) < n ∧ (p.states.l.length : Int) ≤ n) := by omega
  rcases hc with h3 | ⟨h3, h4⟩ | ⟨h3, h4⟩
  · have HR := Lib.hid (show leadsM p s n = false by simp [leadsM, h1, h2]; omega)
    clear h1 h2
    go_enter Tryz.func190, Tryz.ntmps190
    go_wp2
    go_ret
    exact ⟨by rw [HR.out]; rfl, below1 _ _⟩
  · have HR := Lib.hid (show leadsM p s n = true by simp [leadsM, h1, h2]; omega)
    clear h1 h2
    go_enter Tryz.func190, Tryz.ntmps190
    go_wp2
    go_ret
    exact ⟨by rw [HR.out]; rfl, below1 _ _⟩
  · have HR := Lib.hid (show leadsM p s n = false by simp [leadsM, h1, h2]; omega)
    clear h1 h2
    go_enter Tryz.func190, Tryz.ntmps190
    go_wp2
    go_ret
    exact ⟨ret_bool (by rw [HR.out]; exact decide_eq_false (by omega)), below1 _ _⟩

theorem widthAt_okW {p : ProgD} {h f : Int} (hn : widthAt p h f ≠ 0) : okW (widthAt p h f) = true := by
  rw [widthAt_decl] at hn ⊢
  rcases hd : declF p h f with _ | y
  · rw [hd] at hn; exact absurd rfl hn
  · rw [hd] at hn
    simp only at hn ⊢
    cases ho : okW y.width
    · rw [ho] at hn; exact absurd rfl hn
    · rw [if_pos rfl]; exact ho
/-- what the reference finds of the cases of a state -/
def casesM (p : ProgD) (i : Nat) (w : Int) (l : List CaseD) : Int × Int := match firstE l.length (caseAtM p i w l) with
  | some r => r
  | none => (-1, 0)
theorem within_and (a b : Int) (ha : (Lit.int .u32 a).wf = true) (hb : (Lit.int .u32 b).wf = true) : (bits .and .u32 a b == a) = within a b := by
  obtain ⟨x, rfl, lx⟩ := wf_u32 ha
  obtain ⟨y, rfl, ly⟩ := wf_u32 hb
  rw [bits_and_u32 x y lx ly, within, Bool.eq_iff_iff, beq_iff_eq, decide_eq_true_iff, Int.toNat_natCast, Int.toNat_natCast]
  omega
theorem caseM_eq (p : ProgD) (i : Nat) (n : Int) (c : CaseD) : caseM p i n c =
  if fitsM c.value n = false ∨ fitsM c.mask n = false then 9 else if within c.value c.mask = false then 5 else if leadsM p i c.next = false then 14 else 0 := rfl

set_option maxRecDepth 100000 in
set_option maxHeartbeats 8000000 in
theorem rcases_any (p : ProgD) (i : Nat) (hi : i < p.states.l.length) (w : World) (o : ProgOk w p) (hc : ∀ c ∈ p.states.l[i].cases.l, (Lit.int .u32 c.value).wf = true ∧ (Lit.int .u32 c.mask).wf = true)
    (hz : p.states.l[i].cases.l = [] ∨ widthAt p p.states.l[i].oh p.states.l[i].of ≠ 0) :
    Calls Tryz.prog 189 #[.agg (progCells p), .int .i64 i] w fun e w' => e = .returned (.tuple #[.int .i64 (casesM p i (widthAt p p.states.l[i].oh p.states.l[i].of) p.states.l[i].cases.l).1, .int .i64 (casesM p i (widthAt p p.states.l[i].oh p.states.l[i].of) p.states.l[i].cases.l).2]) ∧ Below w.heap.size w w' := by
  have HO := Lib.hid o
  have HC := Lib.hid hc
  obtain ⟨W, hW, hw, HB, hp⟩ := box1 w (progCells p) 31
  have HW := Lib.hid hw
  have HA : Hid (StateOk W p.states.l[i]) := Lib.hid ((o.state _ (List.getElem_mem hi)).below hw)
  have HZ := Lib.hid hz
  obtain ⟨g, of, hA, hq⟩ := StateD.atA (o.states.below hw (Nat.le_refl _)) hi
  have hn1 : (i : Int) < (p.states.l.length : Int) := by omega
  clear o hw hc hz
  generalize p.states.l[i] = s at *
  obtain ⟨sn, ⟨xl, xA, xc⟩, sel, oh, sf, ⟨cl, cA, cc⟩, df⟩ := s
  simp only at hq HC HZ ⊢
  have HR := Lib.hid (casesM.eq_1 p i (widthAt p oh sf) cl)
  have HAA := Lib.hid hA
  simp only [progCells, hA] at hp hW ⊢
  clear hA
  have HK := Lib.hid HA.out.cases
  simp only at HK
  have hm2 := HK.out.1
  unfold maxLen at hm2
  simp only at hm2
  have HS := Lib.hid (caseAtM_at p i (widthAt p oh sf) cl)
  have HWl := Lib.hid (widthAt_le p oh sf)
  have HOkW := Lib.hid (widthAt_okW (p := p) (h := oh) (f := sf))
  generalize hwa : widthAt p oh sf = wa at *
  have HWa := Lib.hid hwa
  clear hwa
  go_enter Tryz.func189, Tryz.ntmps189
  go_upto_region 1 with fail
  rw [← hW]
  clear hW
  refine Exists.elim (box1 W #[.string sn, .slice xA xl.length xc, .bool sel, .int .i64 oh, .int .i64 sf, .slice cA cl.length cc, .int .i64 df] 132) ?_
  rintro U ⟨hU, hu, hUU, hcx⟩
  go_upto_region 2 with fail
  rw [← hU]
  clear hU
  have HU := Lib.hid hu
  have hp2 := fun w' h => hp w' (below_step hu h)
  replace HB := hUU
  clear hp hUU hu hq
  go_wp2_with fail
  have hCN := rwidth12_any p oh sf U (HO.out.below (below_step HW.out (below_step HU.out HB)))
  simp only [progCells, HAA.out, HWa.out] at hCN
  refine hCN.mono ?_
  clear hCN
  rintro e w1 ⟨rfl, hbN⟩
  replace HB := below_step (by first | exact HB | exact below_alloc HB _ | exact below_alloc (below_alloc HB _) _ | exact below_alloc (below_alloc (below_alloc HB _) _) _) hbN
  clear hbN
  have HB0 := Lib.hid HB
  go_wp2
  clear HB
  go_loopw [8, 9] (fun iv _ wr => ∃ k : Nat, k ≤ cl.length ∧ iv = .int .i64 k ∧ (∀ j, j < k → caseAtM p i wa cl j = none) ∧ Below U.heap.size U wr) (fun i _ _ => cl.length - (intOf i).toNat)
  case atStart => exact ⟨0, Nat.zero_le _, rfl, fun j h => absurd h (Nat.not_lt_zero _), HB0.out⟩
  case round =>
    obtain ⟨k, hk, rfl, hpre, HB⟩ := hrel
    have HPre := Lib.hid hpre
    clear hpre
    by_cases hlt : k < cl.length
    · obtain ⟨g2, of2, hA, d0, d1, d2⟩ := CaseD.at (HK.out.below (below_step HU.out HB) (Nat.le_refl _)) hlt
      have HWF := Lib.hid (HC.out _ (List.getElem_mem hlt))
      have HCE := Lib.hid ((HS.out k hlt))
      have hok : okW wa = true := by
        rcases HZ.out with h | h
        · rw [h] at hlt; exact absurd hlt (Nat.not_lt_zero _)
        · exact HOkW.out h
      have HOk := Lib.hid hok
      clear hok
      simp only at hA d0 d1 d2
      subst hA
      generalize cl[k] = c at *
      obtain ⟨cv, cm, cn⟩ := c
      simp only at d0 d1 d2 HWF
      obtain ⟨m, hm⟩ : ∃ m : Nat, wa = m := ⟨wa.toNat, by have := HWl.out; omega⟩
      subst hm
      have hm32 : Hid (m ≤ 32) := Lib.hid (by have := HWl.out; omega)
      have HF1 : Hid (fitsM cv m = decide (cv < ((2 ^ m : Nat) : Int))) := Lib.hid (by have := fits12_eq (v := cv) HOk.out; rwa [Int.toNat_natCast] at this)
      have HF2 : Hid (fitsM cm m = decide (cm < ((2 ^ m : Nat) : Int))) := Lib.hid (by have := fits12_eq (v := cm) HOk.out; rwa [Int.toNat_natCast] at this)
      have HCM := Lib.hid (caseM_eq p i m ⟨cv, cm, cn⟩)
      have hwi := within_and cv cm HWF.out.1 HWF.out.2
      simp only at HCM
      have hp3 := hp2 wr HB
      have hca := @World.cell?_alloc_some
      have hcx3 := hcx wr HB
      go_wp2_with fail
      refine (rfits12_any cv m hm32.out HWF.out.1 _).mono ?_
      rintro e w' ⟨rfl, rfl⟩
      rw [← HF1.out]
      have HBa := Lib.hid (below_alloc HB (.cells (caseCells ⟨cv, cm, cn⟩) 245))
      cases hf1 : fitsM cv m
      · have HE2 := Lib.hid (HCE.out.trans (show _ = some ((k : Int), (9 : Int)) by rw [show caseM p i m ⟨cv, cm, cn⟩ = 9 from HCM.out.trans (if_pos (.inl hf1))]; exact if_pos (by decide)))
        have HR2 := Lib.hid (HR.out.trans (show _ = ((k : Int), (9 : Int)) by rw [firstE_some hlt HPre.out HE2.out]))
        go_wp2
        go_ret2
        exact ⟨ret_pp HR2.out, below_step HW.out (below_step HU.out HBa.out)⟩
      go_wp2_with fail
      refine (rfits12_any cm m hm32.out HWF.out.2 _).mono ?_
      rintro e w' ⟨rfl, rfl⟩
      rw [← HF2.out]
      cases hf2 : fitsM cm m
      · have HE2 := Lib.hid (HCE.out.trans (show _ = some ((k : Int), (9 : Int)) by rw [show caseM p i m ⟨cv, cm, cn⟩ = 9 from HCM.out.trans (if_pos (.inr hf2))]; exact if_pos (by decide)))
        have HR2 := Lib.hid (HR.out.trans (show _ = ((k : Int), (9 : Int)) by rw [firstE_some hlt HPre.out HE2.out]))
        go_wp2
        go_ret2
        exact ⟨ret_pp HR2.out, below_step HW.out (below_step HU.out HBa.out)⟩
      replace HCM := Lib.hid (HCM.out.trans (if_neg (by rw [hf1, hf2]; simp)))
      cases hwt : within cv cm
      · have HE2 := Lib.hid (HCE.out.trans (show _ = some ((k : Int), (5 : Int)) by rw [show caseM p i m ⟨cv, cm, cn⟩ = 5 from HCM.out.trans (if_pos hwt)]; exact if_pos (by decide)))
        have HR2 := Lib.hid (HR.out.trans (show _ = ((k : Int), (5 : Int)) by rw [firstE_some hlt HPre.out HE2.out]))
        rw [hwt] at hwi
        go_wp2
        go_ret2
        exact ⟨ret_pp HR2.out, below_step HW.out (below_step HU.out HBa.out)⟩
      replace HCM := Lib.hid (HCM.out.trans (if_neg (by rw [hwt]; simp)))
      rw [hwt] at hwi
      replace HB := HBa.out
      clear HBa
      go_wp2_with fail
      have hCN := rnext_any p i cn (wr.alloc (.cells (caseCells ⟨cv, cm, cn⟩) 245))
      simp only [progCells, HAA.out] at hCN
      refine hCN.mono ?_
      clear hCN
      rintro e w4 ⟨rfl, hbN⟩
      replace HB := below_step (by first | exact HB | exact below_alloc HB _ | exact below_alloc (below_alloc HB _) _ | exact below_alloc (below_alloc (below_alloc HB _) _) _) hbN
      clear hbN
      cases hl : leadsM p i cn
      · have HE2 := Lib.hid (HCE.out.trans (show _ = some ((k : Int), (14 : Int)) by rw [show caseM p i m ⟨cv, cm, cn⟩ = 14 from HCM.out.trans (if_pos hl)]; exact if_pos (by decide)))
        have HR2 := Lib.hid (HR.out.trans (show _ = ((k : Int), (14 : Int)) by rw [firstE_some hlt HPre.out HE2.out]))
        go_wp2
        go_ret2
        exact ⟨ret_pp HR2.out, below_step HW.out (below_step HU.out HB)⟩
      · have HE2 := Lib.hid (HCE.out.trans (show _ = none by rw [show caseM p i m ⟨cv, cm, cn⟩ = 0 from HCM.out.trans (if_neg (by rw [hl]; simp))]; exact if_neg (by decide)))
        go_wp2
        go_roundw
        case rel => exact ⟨k + 1, by omega, by go_num, firstE_step HPre.out HE2.out, HB⟩
        case measure => simp [intOf]; omega
    · have e : k = cl.length := by omega
      have HR2 := Lib.hid (HR.out.trans (show _ = ((-1 : Int), (0 : Int)) by rw [firstE_none (by rw [← e]; exact HPre.out)]))
      have hcx3 := hcx wr HB
      go_wp2
      go_ret2
      exact ⟨ret_pp HR2.out, below_step HW.out (below_step HU.out HB)⟩

/-- what the reference finds of state i -/
def stM (p : ProgD) (i : Nat) (s : StateD) : Int × Int := if ident s.name = false then (-1, 6) else if dupB (p.states.l.map StateD.name) i = true then (-1, 7) else stateM p i s
theorem casesM_bad {p : ProgD} {i : Nat} {w : Int} {l : List CaseD} {r : Int × Int} (h : casesM p i w l = r) (hn : r.2 ≠ 0) : firstE l.length (caseAtM p i w l) = some r := by
  unfold casesM at h
  rcases hf : firstE l.length (caseAtM p i w l) with _ | x
  · rw [hf] at h; subst h; exact absurd rfl hn
  · rw [hf] at h; subst h; rfl
theorem casesM_ok {p : ProgD} {i : Nat} {w : Int} {l : List CaseD} {r : Int × Int} (h : casesM p i w l = r) (hn : r.2 = 0) : firstE l.length (caseAtM p i w l) = none := by
  unfold casesM at h
  rcases hf : firstE l.length (caseAtM p i w l) with _ | x
  · rfl
  · rw [hf] at h
    subst h
    obtain ⟨k, hk, h2, _⟩ := firstE_ex hf
    rw [caseAtM_at p i w l k hk] at h2
    by_cases hc : caseM p i w l[k] ≠ 0
    · rw [if_pos hc] at h2
      cases h2
      exact absurd hn hc
    · rw [if_neg hc] at h2; cases h2

set_option maxRecDepth 100000 in
set_option maxHeartbeats 16000000 in
theorem rstate_any (p : ProgD) (i : Nat) (hi : i < p.states.l.length) (w : World) (o : ProgOk w p) (hc : ∀ c ∈ p.states.l[i].cases.l, (Lit.int .u32 c.value).wf = true ∧ (Lit.int .u32 c.mask).wf = true) :
    Calls Tryz.prog 149 #[.agg (progCells p), .int .i64 i] w fun e w' => e = .returned (.tuple #[.int .i64 (stM p i p.states.l[i]).1, .int .i64 (stM p i p.states.l[i]).2]) ∧ Below w.heap.size w w' := by
  have HO := Lib.hid o
  have HCs := Lib.hid (fun u (ou : ProgOk u p) hz => rcases_any p i hi u ou hc hz)
  obtain ⟨W, hW, hw, HB, hp⟩ := box1 w (progCells p) 31
  have HW := Lib.hid hw
  have HA : Hid (StateOk W p.states.l[i]) := Lib.hid ((o.state _ (List.getElem_mem hi)).below hw)
  have HR0 := Lib.hid (stM.eq_1 p i p.states.l[i])
  have HRs := Lib.hid (stateM_eq p i p.states.l[i])
  have HD := Lib.hid (dup_tells (f := StateD.name) hi)
  obtain ⟨g, of, hA, hall⟩ := StateD.allA (o.states.below hw (Nat.le_refl _)) (show 0 < p.states.l.length by omega)
  have HAL := Lib.hid hall
  have hq := fun w' h => hall w' h i hi
  have hn1 : (i : Int) < (p.states.l.length : Int) := by omega
  have hn2 : p.states.l.length ≤ 9223372036854775807 := o.states.1
  clear o hw hc hall
  generalize p.states.l[i] = s at *
  obtain ⟨sn, ⟨xl, xA, xc⟩, sel, oh, sf, ⟨cl, cA, cc⟩, df⟩ := s
  simp only at HR0 HRs hq HCs HD
  have HAA := Lib.hid hA
  simp only [progCells, hA] at hp hW ⊢
  clear hA
  have HX := Lib.hid HA.out.extract
  have HK := Lib.hid HA.out.cases
  have HNm : Hid (sn.size ≤ maxLen) := Lib.hid HA.out.name
  simp only at HX HK
  have hm1 := HX.out.1
  have hm2 := HK.out.1
  unfold maxLen at hm1 hm2
  simp only at hm1 hm2
  go_enter Tryz.func149, Tryz.ntmps149
  go_upto_region 1 with fail
  rw [← hW]
  clear hW
  refine Exists.elim (box1 W #[.string sn, .slice xA xl.length xc, .bool sel, .int .i64 oh, .int .i64 sf, .slice cA cl.length cc, .int .i64 df] 132) ?_
  rintro U ⟨hU, hu, hUU, hcx⟩
  go_upto_region 2 with fail
  rw [← hU]
  clear hU
  have HU := Lib.hid hu
  have hp2 := fun w' h => hp w' (below_step hu h)
  replace HB := hUU
  have HUU := Lib.hid hUU
  clear hp hUU hu hq
  go_wp2_with fail
  refine (risIdent_any sn _ HNm.out).mono ?_
  rintro e w' ⟨rfl, rfl⟩
  cases h1 : identM sn.data.toList
  · have HR := Lib.hid (HR0.out.trans (if_pos (show ident sn = false from h1)))
    go_wp2
    go_ret2
    exact ⟨ret_pp HR.out, below_step HW.out (below_step HU.out HB)⟩
  replace HR0 := Lib.hid (HR0.out.trans (if_neg (show ¬ ident sn = false by rw [show ident sn = true from h1]; simp)))
  clear h1
  go_wp2
  clear HB
  go_loopw [7] (fun iv wr => ∃ k : Nat, k ≤ i ∧ iv = .int .i64 k ∧ Hid (∀ j (hj : j < p.states.l.length), j < k → p.states.l[j].name ≠ sn) ∧ Below U.heap.size U wr) (fun k _ => i - (intOf k).toNat)
  case atStart => exact ⟨0, Nat.zero_le _, rfl, Lib.hid (fun j _ hj => absurd hj (Nat.not_lt_zero _)), HUU.out⟩
  case round =>
  obtain ⟨k, hk, rfl, HN, HB⟩ := hrel
  have hcx3 := hcx wr HB
  have hp3 := hp2 wr HB
  by_cases hki : k < i
  · have hkl : k < p.states.l.length := by omega
    have hkl' : (k : Int) < (p.states.l.length : Int) := by omega
    obtain ⟨e0, _⟩ := HAL.out wr (below_step HU.out HB) k hkl
    have HY : Hid (p.states.l[k].name = sn → dupB (p.states.l.map StateD.name) i = true) := Lib.hid (fun e => HD.out.1 k hkl hki e)
    have HZ : Hid (p.states.l[k].name ≠ sn → ∀ j (hj : j < p.states.l.length), j < k + 1 → p.states.l[j].name ≠ sn) := Lib.hid (fun hne => pre_ne (f := fun _ (a : StateD) => a.name ≠ sn) HN.out hne)
    generalize p.states.l[k].name = t at *
    by_cases ht : t = sn
    · have HR := Lib.hid (HR0.out.trans (if_pos (HY.out ht)))
      have ht' := toList_true ht
      clear ht HY HZ
      go_wp2
      go_quiet (fail)
      go_wp2
      go_ret2
      exact ⟨ret_pp HR.out, below_step HW.out (below_step HU.out (below_drewN HB _))⟩
    · have HZ2 := Lib.hid (HZ.out ht)
      have ht' := toList_false ht
      clear ht HY HZ
      go_wp2
      go_quiet (fail)
      go_wp2
      go_roundw
      case rel => exact ⟨k + 1, by omega, by go_num, HZ2, below_drewN HB _⟩
      case measure => simp [intOf]; omega
  have hki' : k = i := by omega
  subst hki'
  have HR1 := Lib.hid (HR0.out.trans (if_neg (by rw [HD.out.2 HN.out]; simp)))
  have HR := Lib.hid (HR1.out.trans HRs.out)
  clear HR0 HR1 HRs HD HN hk hki
  by_cases h2 : 4 < xl.length ∨ 8 < cl.length
  · replace HR := Lib.hid (HR.out.trans (if_pos h2))
    have h2' : 4 < xl.length ∨ (xl.length ≤ 4 ∧ 8 < cl.length) := by omega
    rcases h2' with h2 | ⟨h2, h3⟩
    all_goals
      go_wp2
      go_ret2
      exact ⟨ret_pp HR.out, below_step HW.out (below_step HU.out HB)⟩
  replace HR := Lib.hid (HR.out.trans (if_neg h2))
  have h3 : xl.length ≤ 4 := by omega
  have h4 : cl.length ≤ 8 := by omega
  clear h2
  have HBr := Lib.hid HB
  go_wp2
  clear HB hcx3 hp3
  go_loopw [8] (fun iv wr => ∃ m : Nat, m ≤ xl.length ∧ iv = .int .i64 m ∧ (∀ j (hj : j < xl.length), j < m → badH p xl[j] = false) ∧ Below U.heap.size U wr) (fun i _ => xl.length - (intOf i).toNat)
  case atStart => exact ⟨0, Nat.zero_le _, rfl, fun j _ h => absurd h (Nat.not_lt_zero _), HBr.out⟩
  case round =>
  clear HBr
  obtain ⟨m, hm, rfl, hpre, HB⟩ := hrel
  have HPre := Lib.hid hpre
  clear hpre
  have hcx3 := hcx _ HB
  have hp3 := hp2 _ HB
  by_cases hlt : m < xl.length
  · obtain ⟨g2, of2, hA, d0⟩ := icell_at (HX.out.below (below_step HU.out HB) (Nat.le_refl _)) hlt
    have HE := Lib.hid (any_yes (f := badH p) hlt)
    have HN : Hid (badH p xl[m] = false → ∀ j (hj : j < xl.length), j < m + 1 → badH p xl[j] = false) := Lib.hid (fun hf j hj h => by
      rcases Nat.lt_succ_iff_lt_or_eq.1 h with h1 | rfl
      · exact HPre.out j hj h1
      · exact hf)
    have hm1' : (m : Int) < (xl.length : Int) := by omega
    simp only at hA d0
    subst hA
    generalize xl[m] = x at *
    have hcase : x < 0 ∨ (0 ≤ x ∧ (p.headers.l.length : Int) ≤ x) ∨ (0 ≤ x ∧ x < (p.headers.l.length : Int)) := by omega
    rcases hcase with h1 | ⟨h1, h2⟩ | ⟨h1, h2⟩
    · have HR2 := Lib.hid (HR.out.trans (if_pos (HE.out (by simp [badH, h1]))))
      have b1 : decide (x < 0) = true := decide_eq_true h1
      go_wp2
      go_quiet (fail)
      go_wp2
      go_ret2
      exact ⟨ret_pp HR2.out, below_step HW.out (below_step HU.out (below_drewN HB _))⟩
    · have HR2 := Lib.hid (HR.out.trans (if_pos (HE.out (by simp [badH, h2]))))
      have b1 : decide (x < 0) = false := decide_eq_false (by omega)
      go_wp2
      go_quiet (fail)
      go_wp2
      go_ret2
      exact ⟨ret_pp HR2.out, below_step HW.out (below_step HU.out (below_drewN HB _))⟩
    · have HN2 := Lib.hid (HN.out (by simp [badH]; omega))
      have b1 : decide (x < 0) = false := decide_eq_false (by omega)
      go_wp2
      go_quiet (fail)
      go_wp2
      go_roundw
      case rel => exact ⟨m + 1, by omega, by go_num, HN2.out, below_drewN HB _⟩
      case measure => simp [intOf]; omega
  have e : m = xl.length := by omega
  have hno : Hid (¬ xl.any (badH p) = true) := Lib.hid (by rw [any_no (fun j hj => HPre.out j hj (by omega))]; simp)
  clear hlt
  replace HR := Lib.hid (HR.out.trans (if_neg hno.out))
  have hkx : ¬ ((m : Int) < (xl.length : Int)) := by omega
  subst e
  clear HPre hm
  cases sel
  · replace HR := Lib.hid (HR.out.trans (if_neg (by simp)))
    by_cases h5 : 0 < cl.length
    · replace HR := Lib.hid (HR.out.trans (if_pos (by simp [h5])))
      go_wp2
      go_ret2
      exact ⟨ret_pp HR.out, below_step HW.out (below_step HU.out HB)⟩
    · replace HR := Lib.hid (HR.out.trans (if_neg (fun h => h5 h.2)))
      have h6 : cl.length = 0 := by omega
      have h6' : cl = [] := List.length_eq_zero_iff.1 h6
      have HR2 := Lib.hid (HR.out.trans (show _ = (if leadsM p k df = false then ((-1 : Int), (14 : Int)) else (0, 0)) by rw [h6]; rfl))
      have HC0 : Hid (casesM p k (widthAt p oh sf) cl = (-1, 0)) := Lib.hid (by rw [h6']; rfl)
      have HCk := Lib.hid (fun u ou => HCs.out u ou (.inl h6'))
      have h7 : ¬ (0 : Int) < (cl.length : Int) := by omega
      have h8 : (cl.length : Int) ≤ 0 := by omega
      clear h5 h6 h6'
      go_wp2_with fail
      have hCN := HCk.out _ (HO.out.below (below_step HW.out (below_step HU.out (by first | exact HB | exact below_alloc HB _ | exact below_alloc (below_alloc HB _) _ | exact below_alloc (below_alloc (below_alloc HB _) _) _))))
      simp only [progCells, HAA.out, HC0.out] at hCN
      refine hCN.mono ?_
      clear hCN
      rintro e w3 ⟨rfl, hbN⟩
      replace HB := below_step (by first | exact HB | exact below_alloc HB _ | exact below_alloc (below_alloc HB _) _ | exact below_alloc (below_alloc (below_alloc HB _) _) _) hbN
      clear hbN
      have hcx3 := hcx _ HB
      have hp3 := hp2 _ HB
      go_wp2_with fail
      have hCN := rnext_any p k df w3
      simp only [progCells, HAA.out] at hCN
      refine hCN.mono ?_
      clear hCN
      rintro e w4 ⟨rfl, hbN⟩
      replace HB := below_step (by first | exact HB | exact below_alloc HB _ | exact below_alloc (below_alloc HB _) _ | exact below_alloc (below_alloc (below_alloc HB _) _) _) hbN
      clear hbN
      cases h4 : leadsM p k df
      · replace HR2 := Lib.hid (HR2.out.trans (if_pos h4))
        go_wp2
        go_ret2
        exact ⟨ret_pp HR2.out, below_step HW.out (below_step HU.out HB)⟩
      · replace HR2 := Lib.hid (HR2.out.trans (if_neg (by rw [h4]; simp)))
        go_wp2
        go_ret2
        exact ⟨ret_pp HR2.out, below_step HW.out (below_step HU.out HB)⟩
  · go_wp2_with fail
    have hCN := rwidth12_any p oh sf _ (HO.out.below (below_step HW.out (below_step HU.out (by first | exact HB | exact below_alloc HB _ | exact below_alloc (below_alloc HB _) _ | exact below_alloc (below_alloc (below_alloc HB _) _) _))))
    simp only [progCells, HAA.out] at hCN
    refine hCN.mono ?_
    clear hCN
    rintro e w1 ⟨rfl, hbN⟩
    replace HB := below_step (by first | exact HB | exact below_alloc HB _ | exact below_alloc (below_alloc HB _) _ | exact below_alloc (below_alloc (below_alloc HB _) _) _) hbN
    clear hbN
    by_cases h5 : widthAt p oh sf = 0
    · replace HR := Lib.hid (HR.out.trans (if_pos (by simp [h5])))
      have h5' : (widthAt p oh sf == 0) = true := beq_iff_eq.2 h5
      clear h5
      go_wp2
      go_ret2
      exact ⟨ret_pp HR.out, below_step HW.out (below_step HU.out HB)⟩
    replace HR := Lib.hid (HR.out.trans ((if_neg (fun h => h5 h.2)).trans (if_neg (by simp))))
    have h5' : (widthAt p oh sf == 0) = false := beq_eq_false_iff_ne.2 h5
    have HCk := Lib.hid (fun u ou => HCs.out u ou (.inr h5))
    clear h5 hcx3 hp3
    have hcx3 := hcx _ HB
    have hp3 := hp2 _ HB
    have HBd := Lib.hid (fun r => casesM_bad (p := p) (i := k) (w := widthAt p oh sf) (l := cl) (r := r))
    have HGd := Lib.hid (fun r => casesM_ok (p := p) (i := k) (w := widthAt p oh sf) (l := cl) (r := r))
    go_wp2_with fail
    have hCN := HCk.out w1 (HO.out.below (below_step HW.out (below_step HU.out (by first | exact HB | exact below_alloc HB _ | exact below_alloc (below_alloc HB _) _ | exact below_alloc (below_alloc (below_alloc HB _) _) _))))
    simp only [progCells, HAA.out] at hCN
    refine hCN.mono ?_
    clear hCN
    rintro e w3 ⟨rfl, hbN⟩
    replace HB := below_step (by first | exact HB | exact below_alloc HB _ | exact below_alloc (below_alloc HB _) _ | exact below_alloc (below_alloc (below_alloc HB _) _) _) hbN
    clear hbN
    generalize casesM p k (widthAt p oh sf) cl = r at *
    have HBd2 := Lib.hid (HBd.out r rfl)
    have HGd2 := Lib.hid (HGd.out r rfl)
    clear HBd HGd hcx3 hp3
    have hcx3 := hcx _ HB
    have hp3 := hp2 _ HB
    obtain ⟨ra, rc⟩ := r
    by_cases k1 : rc = 0
    · subst k1
      have HR2 := Lib.hid (HR.out.trans (show _ = (if leadsM p k df = false then ((-1 : Int), (14 : Int)) else (0, 0)) by rw [HGd2.out rfl]))
      go_wp2_with fail
      have hCN := rnext_any p k df w3
      simp only [progCells, HAA.out] at hCN
      refine hCN.mono ?_
      clear hCN
      rintro e w4 ⟨rfl, hbN⟩
      replace HB := below_step (by first | exact HB | exact below_alloc HB _ | exact below_alloc (below_alloc HB _) _ | exact below_alloc (below_alloc (below_alloc HB _) _) _) hbN
      clear hbN
      cases h4 : leadsM p k df
      · replace HR2 := Lib.hid (HR2.out.trans (if_pos h4))
        go_wp2
        go_ret2
        exact ⟨ret_pp HR2.out, below_step HW.out (below_step HU.out HB)⟩
      · replace HR2 := Lib.hid (HR2.out.trans (if_neg (by rw [h4]; simp)))
        go_wp2
        go_ret2
        exact ⟨ret_pp HR2.out, below_step HW.out (below_step HU.out HB)⟩
    · have HR2 := Lib.hid (HR.out.trans (show _ = (ra, rc) by rw [HBd2.out k1]))
      have k1' : (rc == 0) = false := beq_eq_false_iff_ne.2 k1
      clear k1
      go_wp2
      go_ret2
      exact ⟨ret_pp HR2.out, below_step HW.out (below_step HU.out HB)⟩
end Go.Proofs.YtbfjknidinkafaaGreat

