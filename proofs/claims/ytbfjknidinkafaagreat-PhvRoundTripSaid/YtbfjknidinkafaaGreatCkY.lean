/- The walk of package header's Check on any header. No condition but that the header lies in memory. -/
import Derived.Test.YtbfjknidinkafaaGreatCkX
namespace Go.Proofs.YtbfjknidinkafaaGreat
open Go.RowKit

theorem hdrM_eq (h : HeaderD) : hdrM h = if ident h.name = false then 6 else if h.fields.l.length = 0 then 8 else if 12 < h.fields.l.length then 12
  else match firstE h.fields.l.length (fldM h.fields.l) with
    | some e => e
    | none => if Int.tmod (widthSum h.fields.l) 8 ≠ 0 then 10 else 0 := rfl
theorem fld_fine {l : List FieldD} {i : Nat} (h : i < l.length) (hf : fldM l i = none) : okW l[i].width = true := by
  rw [fldM_at l i h] at hf
  split at hf
  · cases hf
  split at hf
  · cases hf
  · rename_i h2
    simpa using h2
theorem dup_yes {l : List FieldD} {i j : Nat} (hi : i < l.length) (hj : j < i) (he : (l[j]'(by omega)).name = l[i].name) : dupB (l.map FieldD.name) i = true := by
  rw [dupB_iff (by simpa using hi)]
  exact ⟨j, by simp; omega, hj, by simpa using he⟩
theorem dup_no {l : List FieldD} {i : Nat} (hi : i < l.length) (h : ∀ j (hj : j < l.length), j < i → l[j].name ≠ l[i].name) : dupB (l.map FieldD.name) i = false := by
  rw [Bool.eq_false_iff]
  intro e
  rw [dupB_iff (by simpa using hi)] at e
  obtain ⟨k, hk, hki, he⟩ := e
  simp at hk he
  exact h k (by omega) hki he

set_option maxRecDepth 100000 in
set_option maxHeartbeats 4000000 in
theorem headerCheck_any (h : HeaderD) (w : World) (o : HeaderOk w h) (hc : h.fields.l.length ≤ h.fields.c) :
    Calls Tryz.prog 121 #[.agg #[.string h.name, .slice h.fields.A h.fields.l.length h.fields.c]] w fun e w' => e = .returned (.int .i64 (hdrM h)) ∧ Below w.heap.size w w' := by
  obtain ⟨nm, ⟨l, A0, c0⟩⟩ := h
  have HS : Hid (nm.size ≤ maxLen) := Lib.hid o.name
  have HN : Hid (∀ f ∈ l, f.name.size ≤ maxLen) := Lib.hid o.names
  have HR := Lib.hid (hdrM_eq ⟨nm, ⟨l, A0, c0⟩⟩)
  obtain ⟨W, hW, hw, HB, hp⟩ := box1 w #[.string nm, .slice A0 l.length c0] 96
  have HW := Lib.hid hw
  have HX := Lib.hid (o.fields.below hw (Nat.le_refl _))
  have HB0 := Lib.hid HB
  simp only at HR hc ⊢
  clear o hw
  by_cases h0 : l.length = 0
  · have h0' : ((l.length : Int) == 0) = true := by rw [beq_iff_eq]; omega
    have HR2 : Hid (hdrM ⟨nm, ⟨l, A0, c0⟩⟩ = if ident nm = false then 6 else 8) := Lib.hid (by rw [HR.out, if_pos h0])
    clear h0
    go_enter Tryz.func121, Tryz.ntmps121
    go_upto_region 1 with fail
    rw [← hW]
    clear hW
    go_wp2_with fail
    refine (isIdent_any nm _ HS.out).mono ?_
    rintro e w' ⟨rfl, rfl⟩
    cases h1 : identM nm.data.toList
    · have HR3 := Lib.hid (HR2.out.trans (if_pos (show ident nm = false from h1)))
      go_wp2
      go_ret
      exact ⟨by rw [HR3.out]; rfl, below_step HW.out HB⟩
    · have HR3 := Lib.hid (HR2.out.trans (if_neg (show ¬ ident nm = false by rw [show ident nm = true from h1]; simp)))
      go_wp2
      go_ret
      exact ⟨by rw [HR3.out]; rfl, below_step HW.out HB⟩
  have h0' : ((l.length : Int) == 0) = false := by rw [beq_eq_false_iff_ne]; omega
  obtain ⟨g, of, hA, hall⟩ := FieldD.allA HX.out (show 0 < l.length by omega)
  have HAL := Lib.hid hall
  simp only at hA
  subst hA
  go_enter Tryz.func121, Tryz.ntmps121
  go_upto_region 1 with fail
  rw [← hW]
  clear hW hall
  go_wp2_with fail
  refine (isIdent_any nm _ HS.out).mono ?_
  rintro e w' ⟨rfl, rfl⟩
  cases h1 : identM nm.data.toList
  · have HR3 := Lib.hid (HR.out.trans (if_pos (show ident nm = false from h1)))
    go_wp2
    go_ret
    exact ⟨by rw [HR3.out]; rfl, below_step HW.out HB⟩
  replace HR := Lib.hid (HR.out.trans ((if_neg (show ¬ ident nm = false by rw [show ident nm = true from h1]; simp)).trans (if_neg h0)))
  clear h0 h1
  by_cases h12 : 12 < l.length
  · have HR3 := Lib.hid (HR.out.trans (if_pos h12))
    go_wp2
    go_ret
    exact ⟨by rw [HR3.out]; rfl, below_step HW.out HB⟩
  replace HR := Lib.hid (HR.out.trans (if_neg h12))
  have h12' : l.length ≤ 12 := by omega
  clear h12
  go_wp2
  clear HB
  go_loopw [3, 4, 6, 25] (fun _ _ _ iv wr => ∃ k : Nat, k ≤ l.length ∧ iv = .int .i64 k ∧ (∀ j, j < k → fldM l j = none) ∧ Below W.heap.size W wr) (fun _ _ _ i _ => l.length - (intOf i).toNat)
  case atStart => exact ⟨0, Nat.zero_le _, rfl, fun j h => absurd h (Nat.not_lt_zero _), HB0.out⟩
  case round =>
    obtain ⟨k, hk, rfl, hpre, HB⟩ := hrel
    have HPre := Lib.hid hpre
    clear hpre
    by_cases hlt : k < l.length
    · obtain ⟨d0, d1⟩ := HAL.out wr HB k hlt
      have HF := Lib.hid (fldM_at l k hlt)
      have HNk := Lib.hid (HN.out _ (List.getElem_mem hlt))
      have HDy : Hid (∀ j (hj : j < l.length), j < k → l[j].name = l[k].name → dupB (l.map FieldD.name) k = true) := Lib.hid (fun j _ hjk he => dup_yes hlt hjk he)
      have HDn : Hid ((∀ j (hj : j < l.length), j < k → l[j].name ≠ l[k].name) → dupB (l.map FieldD.name) k = false) := Lib.hid (dup_no hlt)
      have hca := @World.cell?_alloc_some
      generalize l[k] = y at *
      obtain ⟨yn, yw⟩ := y
      simp only at HF HNk HDy HDn d0 d1
      go_wp2_with fail
      refine (isIdent_any yn _ HNk.out).mono ?_
      rintro e w' ⟨rfl, rfl⟩
      cases h1 : identM yn.data.toList
      · have HE := Lib.hid (HF.out.trans (if_pos (show ident yn = false from h1)))
        have HR2 := Lib.hid (HR.out.trans (show _ = (6 : Int) by rw [firstE_some hlt HPre.out HE.out]))
        go_wp2
        go_ret
        exact ⟨by rw [HR2.out]; rfl, below_step HW.out (by first | exact HB | exact below_alloc HB _ | exact below_alloc (below_alloc HB _) _ | exact below_alloc (below_alloc (below_alloc HB _) _) _)⟩
      have HF1 := Lib.hid (HF.out.trans (if_neg (show ¬ ident yn = false by rw [show ident yn = true from h1]; simp)))
      clear HF h1
      cases h2 : okW yw
      · have HE := Lib.hid (HF1.out.trans (if_pos h2))
        have HR2 := Lib.hid (HR.out.trans (show _ = (10 : Int) by rw [firstE_some hlt HPre.out HE.out]))
        have h3 : yw < 1 ∨ (1 ≤ yw ∧ 32 < yw) := by have := okW_not.1 h2; omega
        rcases h3 with h3 | ⟨h3, h4⟩
        all_goals
          go_wp2
          go_ret
          exact ⟨by rw [HR2.out]; rfl, below_step HW.out (by first | exact HB | exact below_alloc HB _ | exact below_alloc (below_alloc HB _) _ | exact below_alloc (below_alloc (below_alloc HB _) _) _)⟩
      have HF2 := Lib.hid (HF1.out.trans (if_neg (by rw [h2]; simp)))
      clear HF1
      obtain ⟨yw1, yw2⟩ := okW_iff.1 h2
      have hi1 : (k : Int) ≤ (l.length : Int) := by omega
      have hi2 : k ≤ c0 := by omega
      refine Exists.elim (box1 wr #[.string yn, .int .i64 yw] 135) ?_
      rintro U ⟨hU, hu, hUU, hbx⟩
      have HU := Lib.hid (below_step HB hu)
      have HUU := Lib.hid hUU
      have HSz : Hid (U.heap.size = wr.heap.size + 1) := Lib.hid (by rw [hU]; simp)
      go_wp2
      rw [← hU]
      clear hU hu hUU d0 d1 HB hca
      generalize wr.heap.size = gb at *
      go_loopw [6, 47] (fun _ iv wx => ∃ j : Nat, j ≤ k ∧ iv = .int .i64 j ∧ (∀ t (ht : t < l.length), t < j → l[t].name ≠ yn) ∧ Below U.heap.size U wx) (fun _ i _ => k - (intOf i).toNat)
      case atStart => exact ⟨0, Nat.zero_le _, rfl, fun t _ h => absurd h (Nat.not_lt_zero _), HUU.out⟩
      case round =>
        obtain ⟨j, hj, rfl, hpre2, HB⟩ := hrel
        have HPre2 := Lib.hid hpre2
        clear hpre2
        by_cases hlt2 : j < k
        · obtain ⟨e0, e1⟩ := HAL.out wr (below_step HU.out HB) j (by omega)
          have f0 : wr.cell? ⟨gb, 0, none⟩ = some (.string yn) := hbx wr HB 0 (show 0 < 2 by decide)
          have f1 : wr.cell? ⟨gb, 1, none⟩ = some (.int .i64 yw) := hbx wr HB 1 (show 1 < 2 by decide)
          have HY := Lib.hid (HDy.out j (by omega) hlt2)
          have HNx : Hid (l[j].name ≠ yn → ∀ t (ht : t < l.length), t < j + 1 → l[t].name ≠ yn) := Lib.hid (fun hf t ht h => by
            rcases Nat.lt_succ_iff_lt_or_eq.1 h with h1 | rfl
            · exact HPre2.out t ht h1
            · exact hf)
          generalize l[j] = z at *
          obtain ⟨zn, zw⟩ := z
          simp only at e0 e1 HY HNx
          refine Exists.elim (⟨_, rfl⟩ : ∃ V, V = wr.alloc (.cells #[.string zn, .int .i64 yw] 135)) fun V hV => ?_
          have hBz : Blk V wr.heap.size 135 #[.string zn, .int .i64 yw] := by rw [hV]; exact Blk.new _ _ _
          have hBV : Below U.heap.size U V := by rw [hV]; exact below_alloc HB _
          have HBV := Lib.hid hBV
          have g0 : V.cell? ⟨wr.heap.size, 0, none⟩ = some (.string zn) := hBz.cell 0
          have g1 : V.cell? ⟨wr.heap.size, 1, none⟩ = some (.int .i64 yw) := hBz.cell 1
          have f2 : V.cell? ⟨gb, 0, none⟩ = some (.string yn) := hbx V hBV 0 (show 0 < 2 by decide)
          have f3 : V.cell? ⟨gb, 1, none⟩ = some (.int .i64 yw) := hbx V hBV 1 (show 1 < 2 by decide)
          have hca := @World.cell?_alloc_some
          clear hBz hBV
          go_upto_region 18 with fail
          rw [← hV]
          clear hV e0 e1 f0 f1 hca HB
          by_cases he : zn = yn
          · have HE := Lib.hid (HF2.out.trans (if_pos (HY.out he)))
            have HR2 := Lib.hid (HR.out.trans (show _ = (7 : Int) by rw [firstE_some hlt HPre.out HE.out]))
            have he' := toList_true he
            clear he
            go_wp2
            go_ret
            exact ⟨by rw [HR2.out]; rfl, below_step HW.out (below_step HU.out HBV.out)⟩
          · have he' := toList_false he
            have HN2 := Lib.hid (HNx.out he)
            clear he
            go_wp2
            go_roundw
            case rel => exact ⟨j + 1, by omega, by go_num, HN2.out, HBV.out⟩
            case measure => simp [intOf]; omega
        · have HE := Lib.hid (HF2.out.trans (if_neg (by rw [HDn.out (fun t ht h => HPre2.out t ht (by omega))]; simp)))
          go_wp2
          go_roundw
          case rel => exact ⟨k + 1, by omega, by go_num, firstE_step HPre.out HE.out, below_step HU.out HB⟩
          case measure => simp [intOf]; omega
    · have e : k = l.length := by omega
      have hpre := HPre.out
      rw [e] at hpre
      have HR2 := Lib.hid (HR.out.trans (show _ = (if Int.tmod (l.map FieldD.width).sum 8 ≠ 0 then (10 : Int) else 0) by rw [firstE_none hpre, widthSum]))
      have hfine : ∀ v ∈ l.map FieldD.width, 1 ≤ v ∧ v ≤ 32 := by
        intro v hv
        obtain ⟨f, hf, rfl⟩ := List.mem_map.1 hv
        obtain ⟨i, hi, rfl⟩ := List.mem_iff_getElem.1 hf
        exact okW_iff.1 (fld_fine hi (hpre i hi))
      have HFi := Lib.hid hfine
      clear e hpre hfine HPre
      go_wp2_with fail
      refine (widths_any ⟨nm, ⟨l, some ⟨g, of, none⟩, c0⟩⟩ wr (HX.out.below HB (Nat.le_refl _)) (by simp only; omega)).mono ?_
      rintro e w2 ⟨A, c, rfl, hl, hb2⟩
      replace HB := below_step HB hb2
      clear hb2
      go_wp2_with fail
      have hs := hsum_any ⟨l.map FieldD.width, A, c⟩ w2 hl (by simp only [List.length_map]; omega) HFi.out
      simp only [List.length_map] at hs
      refine hs.mono ?_
      rintro e w3 ⟨rfl, rfl⟩
      clear hs hl
      have hbd := sumI_bound _ HFi.out
      rw [List.length_map] at hbd
      obtain ⟨b1, b2⟩ := hbd
      generalize (l.map FieldD.width).sum = sm at *
      rw [Int.tmod_eq_emod_of_nonneg b1] at HR2
      by_cases h8 : sm % 8 = 0
      · have HR3 := Lib.hid (HR2.out.trans (if_neg (fun h => h h8)))
        have h8' : (sm % 8 == 0) = true := beq_iff_eq.2 h8
        clear h8
        go_wp2
        go_ret
        exact ⟨by rw [HR3.out]; rfl, below_step HW.out HB⟩
      · have HR3 := Lib.hid (HR2.out.trans (if_pos h8))
        have h8' : (sm % 8 == 0) = false := beq_eq_false_iff_ne.2 h8
        clear h8
        go_wp2
        go_ret
        exact ⟨by rw [HR3.out]; rfl, below_step HW.out HB⟩
end Go.Proofs.YtbfjknidinkafaaGreat

