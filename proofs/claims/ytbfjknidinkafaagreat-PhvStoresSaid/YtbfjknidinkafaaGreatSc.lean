/- What a check of a program names is an error. No code in sight. No condition. -/
import Derived.Test.YtbfjknidinkafaaGreatSb
import Derived.Test.YtbfjknidinkafaaGreatSa
import Derived.StillTailTactics
import Derived.Defers
import Derived.Recover
import Derived.Laws.OwnMore
namespace Go.Proofs.YtbfjknidinkafaaGreat
open Go.RowKit
set_option maxRecDepth 100000
set_option maxHeartbeats 16000000
theorem widths_any (h : HeaderD) (w : World) (o : LOk w 2 FieldD.cells h.fields) (hm : h.fields.l.length ≤ 1000) :
    Calls Tryz.prog 167 #[.agg #[.string h.name, .slice h.fields.A h.fields.l.length h.fields.c]] w fun e w' =>
      ∃ A c, e = .returned (.slice A h.fields.l.length c) ∧ LOk w' 1 icell ⟨h.fields.l.map FieldD.width, A, c⟩ ∧ Below w.heap.size w w' := by
  obtain ⟨nm, ⟨l, A0, c0⟩⟩ := h
  simp only at hm ⊢
  obtain ⟨W, hW, hw, HB, hp⟩ := box1 w #[.string nm, .slice A0 l.length c0] 96
  have HW := hi_ hw
  have HX := hi_ (o.below hw (Nat.le_refl _))
  have HB0 := hi_ HB
  obtain ⟨i0, hi, hz0, hz1, hz2⟩ := info_parts (show (Tryz.prog.info? 3).map (fun i => (i.zero, i.size, i.bytes)) = some (some (.int .i64 0), 1, 8) by kernel_rfl)
  clear o hw
  go_enter Tryz.func167, Tryz.ntmps167
  go_upto_region 1 with fail
  rw [← hW]
  clear hW
  go_wp2
  clear HB
  go_loopw [3, 5, 9] (fun ov _ iv wr => ∃ (k : Nat) (A : Option Addr) (c : Nat), k ≤ l.length ∧ iv = .int .i64 k ∧ ov = .slice A k c ∧ wr.ownsRow W.heap.size 3 1 (.slice A k c) k (ints ((l.take k).map FieldD.width)) ∧ Below W.heap.size W wr)
    (fun _ _ i _ => l.length - (intOf i).toNat)
  case atStart => exact ⟨0, none, 0, Nat.zero_le _, rfl, rfl, World.ownsRow_nil _ _ _ _, HB0.out⟩
  case round =>
    obtain ⟨k, A, c, hk, rfl, rfl, hown, HB⟩ := hrel
    by_cases hlt : k < l.length
    · obtain ⟨g, of, hA, d0, d1⟩ := FieldD.at (HX.out.below HB (Nat.le_refl _)) hlt
      simp only at hA d0 d1
      subst hA
      have HT : Hid (l.take (k + 1) = l.take k ++ [l[k]]) := hi_ (take_snoc l k hlt)
      generalize l[k] = y at *
      have HO := hi_ hown
      have HBH := hi_ HB
      have hsz := HW.out.size
      have hsz2 := HB.size
      clear hown
      go_wp2_with (first
        | (at_builtin; refine wpList_append_own _ rfl _ _ 29 rfl W.heap.size 3 i0 _ 1 8 Tryz.underlying29 hi hz0 hz1 hz2 rfl (by decide) _ k (ints ((l.take k).map FieldD.width)) rfl ((HO.out.alloc _).alloc _) ⟨wr.heap.size + 1, 0, none⟩ 1 1 [.int .i64 y.width] rfl rfl ?c1 ?c2 ?c3 ?c4 ?c5 ?_))
      case c1 =>
        intro j v hj
        match j, hj with
        | 0, hj => simp at hj; subst hj; simp [Addr.add]
      case c2 => intro u hu; simp at hu; subst hu; rfl
      case c3 => unfold maxLen; omega
      case c4 => omega
      case c5 => simp; omega
      intro v' w2 hown2 hgrow _
      have hb2 := below_alloc (below_alloc HBH.out (.cells #[.string y.name, .int .i64 y.width] 135)) (.cells #[.int .i64 y.width] 3)
      have hbel2 : Below W.heap.size W w2 := hb2.grown hgrow hb2.size fun j hj => (HO.out.lt j hj).1
      obtain ⟨A', c', rfl⟩ : ∃ A' c', v' = .slice A' (k + 1) c' := by
        rcases hown2.2 with ⟨hv, h0⟩ | ⟨g', cap, cur, hv, _, _, _⟩
        · omega
        · exact ⟨_, _, hv⟩
      clear hb2
      go_wp2
      go_roundw
      case rel =>
        refine ⟨k + 1, A', c', by omega, by go_num, rfl, ?_, hbel2⟩
        rw [HT.out, List.map_append]
        simpa [ints] using hown2
      case measure => simp [intOf]; omega
    · have hk' : k = l.length := by omega
      subst hk'
      rw [List.take_length] at hown
      have HL := hi_ (own_lok (l := l.map FieldD.width) (by simpa using hown) (by rw [List.length_map]; unfold maxLen; omega))
      clear hown
      go_wp2
      go_ret
      exact ⟨A, c, rfl, HL.out, below_step HW.out HB⟩
theorem sumI_snoc (l : List Int) (x : Int) : (l ++ [x]).sum = l.sum + x := by simp [List.sum_append]
theorem sumI_bound (l : List Int) (h : ∀ x ∈ l, 1 ≤ x ∧ x ≤ 32) : 0 ≤ l.sum ∧ l.sum ≤ 32 * l.length := by
  induction l with
  | nil => exact ⟨Int.le_refl _, Int.le_refl _⟩
  | cons x l ih =>
    have h1 := ih (fun y hy => h y (List.mem_cons_of_mem _ hy))
    have h2 := h x List.mem_cons_self
    rw [List.sum_cons, List.length_cons]
    omega
theorem hsum_any (x : L Int) (w : World) (o : LOk w 1 icell x) (hm : x.l.length ≤ 1000) (hx : ∀ v ∈ x.l, 1 ≤ v ∧ v ≤ 32) :
    Calls Tryz.prog 166 #[.slice x.A x.l.length x.c] w fun e w' => e = .returned (.int .i64 x.l.sum) ∧ w = w' := by
  obtain ⟨l, A, c⟩ := x
  have HO := hi_ o
  have HX := hi_ hx
  simp only at hm HX ⊢
  clear o hx
  go_enter Tryz.func166, Tryz.ntmps166
  go_wp2
  go_loopw [3, 5, 8] (fun nv _ iv wr => ∃ k : Nat, k ≤ l.length ∧ iv = .int .i64 k ∧ nv = .int .i64 (l.take k).sum ∧ w = wr) (fun _ _ i _ => l.length - (intOf i).toNat)
  case atStart => exact ⟨0, Nat.zero_le _, rfl, rfl, rfl⟩
  case round =>
    obtain ⟨k, hk, rfl, rfl, rfl⟩ := hrel
    by_cases hlt : k < l.length
    · obtain ⟨g, of, hA, d0⟩ := icell_at HO.out hlt
      simp only at hA d0
      subst hA
      have HT : Hid ((l.take (k + 1)).sum = (l.take k).sum + l[k]) := hi_ (by rw [take_snoc l k hlt, sumI_snoc])
      have hb := sumI_bound (l.take k) (fun y hy => HX.out y (List.mem_of_mem_take hy))
      have hy := HX.out _ (List.getElem_mem hlt)
      rw [List.length_take] at hb
      obtain ⟨b1, b2⟩ := hb
      obtain ⟨y1, y2⟩ := hy
      generalize l[k] = y at *
      generalize (l.take k).sum = s at *
      go_wp2
      go_roundw
      case rel => exact ⟨k + 1, by omega, by go_num, by rw [HT.out], by trivial⟩
      case measure => simp [intOf]; omega
    · have e : k = l.length := by omega
      have HT : Hid ((l.take k).sum = l.sum) := hi_ (by rw [e, List.take_length])
      go_wp2
      go_ret
      exact ⟨by rw [HT.out]; rfl, rfl⟩
theorem hdrM_eq (h : HeaderD) : hdrM h = if ident h.name = false then 6 else if h.fields.l.length = 0 then 8 else if 12 < h.fields.l.length then 12
  else match firstE h.fields.l.length (fldM h.fields.l) with
    | some e => e
    | none => if Int.tmod (widthSum h.fields.l) 8 ≠ 0 then 10 else 0 := rfl
theorem fld_fine {l : List FieldD} {i : Nat} (h : i < l.length) (hf : fldM l i = none) : okW l[i].width = true := by
  rw [fldM_at l i h] at hf
  split at hf
  · cases hf
  split at hf
  · cases hf
  · rename_i h2
    simpa using h2
theorem dup_yes {l : List FieldD} {i j : Nat} (hi : i < l.length) (hj : j < i) (he : (l[j]'(by omega)).name = l[i].name) : dupB (l.map FieldD.name) i = true := by
  rw [dupB_iff (by simpa using hi)]
  exact ⟨j, by simp; omega, hj, by simpa using he⟩
theorem dup_no {l : List FieldD} {i : Nat} (hi : i < l.length) (h : ∀ j (hj : j < l.length), j < i → l[j].name ≠ l[i].name) : dupB (l.map FieldD.name) i = false := by
  rw [Bool.eq_false_iff]
  intro e
  rw [dupB_iff (by simpa using hi)] at e
  obtain ⟨k, hk, hki, he⟩ := e
  simp at hk he
  exact h k (by omega) hki he
theorem headerCheck_any (h : HeaderD) (w : World) (o : HeaderOk w h) (hc : h.fields.l.length ≤ h.fields.c) :
    Calls Tryz.prog 121 #[.agg #[.string h.name, .slice h.fields.A h.fields.l.length h.fields.c]] w fun e w' => e = .returned (.int .i64 (hdrM h)) ∧ Below w.heap.size w w' := by
  obtain ⟨nm, ⟨l, A0, c0⟩⟩ := h
  have HS : Hid (nm.size ≤ maxLen) := hi_ o.name
  have HN : Hid (∀ f ∈ l, f.name.size ≤ maxLen) := hi_ o.names
  have HR := hi_ (hdrM_eq ⟨nm, ⟨l, A0, c0⟩⟩)
  obtain ⟨W, hW, hw, HB, hp⟩ := box1 w #[.string nm, .slice A0 l.length c0] 96
  have HW := hi_ hw
  have HX := hi_ (o.fields.below hw (Nat.le_refl _))
  have HB0 := hi_ HB
  simp only at HR hc ⊢
  clear o hw
  by_cases h0 : l.length = 0
  · have h0' : ((l.length : Int) == 0) = true := by rw [beq_iff_eq]; omega
    have HR2 : Hid (hdrM ⟨nm, ⟨l, A0, c0⟩⟩ = if ident nm = false then 6 else 8) := hi_ (by rw [HR.out, if_pos h0])
    clear h0
    go_enter Tryz.func121, Tryz.ntmps121
    go_upto_region 1 with fail
    rw [← hW]
    clear hW
    go_wp2_with fail
    refine (isIdent_any nm _ HS.out).mono ?_
    rintro e w' ⟨rfl, rfl⟩
    cases h1 : identM nm.data.toList
    · have HR3 := hi_ (HR2.out.trans (if_pos (show ident nm = false from h1)))
      go_wp2
      go_ret
      exact ⟨by rw [HR3.out]; rfl, below_step HW.out HB⟩
    · have HR3 := hi_ (HR2.out.trans (if_neg (show ¬ ident nm = false by rw [show ident nm = true from h1]; simp)))
      go_wp2
      go_ret
      exact ⟨by rw [HR3.out]; rfl, below_step HW.out HB⟩
  have h0' : ((l.length : Int) == 0) = false := by rw [beq_eq_false_iff_ne]; omega
  obtain ⟨g, of, hA, hall⟩ := FieldD.allA HX.out (show 0 < l.length by omega)
  have HAL := hi_ hall
  simp only at hA
  subst hA
  go_enter Tryz.func121, Tryz.ntmps121
  go_upto_region 1 with fail
  rw [← hW]
  clear hW hall
  go_wp2_with fail
  refine (isIdent_any nm _ HS.out).mono ?_
  rintro e w' ⟨rfl, rfl⟩
  cases h1 : identM nm.data.toList
  · have HR3 := hi_ (HR.out.trans (if_pos (show ident nm = false from h1)))
    go_wp2
    go_ret
    exact ⟨by rw [HR3.out]; rfl, below_step HW.out HB⟩
  replace HR := hi_ (HR.out.trans ((if_neg (show ¬ ident nm = false by rw [show ident nm = true from h1]; simp)).trans (if_neg h0)))
  clear h0 h1
  by_cases h12 : 12 < l.length
  · have HR3 := hi_ (HR.out.trans (if_pos h12))
    go_wp2
    go_ret
    exact ⟨by rw [HR3.out]; rfl, below_step HW.out HB⟩
  replace HR := hi_ (HR.out.trans (if_neg h12))
  have h12' : l.length ≤ 12 := by omega
  clear h12
  go_wp2
  clear HB
  go_loopw [3, 4, 6, 25] (fun _ _ _ iv wr => ∃ k : Nat, k ≤ l.length ∧ iv = .int .i64 k ∧ (∀ j, j < k → fldM l j = none) ∧ Below W.heap.size W wr) (fun _ _ _ i _ => l.length - (intOf i).toNat)
  case atStart => exact ⟨0, Nat.zero_le _, rfl, fun j h => absurd h (Nat.not_lt_zero _), HB0.out⟩
  case round =>
    obtain ⟨k, hk, rfl, hpre, HB⟩ := hrel
    have HPre := hi_ hpre
    clear hpre
    by_cases hlt : k < l.length
    · obtain ⟨d0, d1⟩ := HAL.out wr HB k hlt
      have HF := hi_ (fldM_at l k hlt)
      have HNk := hi_ (HN.out _ (List.getElem_mem hlt))
      have HDy : Hid (∀ j (hj : j < l.length), j < k → l[j].name = l[k].name → dupB (l.map FieldD.name) k = true) := hi_ (fun j _ hjk he => dup_yes hlt hjk he)
      have HDn : Hid ((∀ j (hj : j < l.length), j < k → l[j].name ≠ l[k].name) → dupB (l.map FieldD.name) k = false) := hi_ (dup_no hlt)
      have hca := @World.cell?_alloc_some
      generalize l[k] = y at *
      obtain ⟨yn, yw⟩ := y
      simp only at HF HNk HDy HDn d0 d1
      go_wp2_with fail
      refine (isIdent_any yn _ HNk.out).mono ?_
      rintro e w' ⟨rfl, rfl⟩
      cases h1 : identM yn.data.toList
      · have HE := hi_ (HF.out.trans (if_pos (show ident yn = false from h1)))
        have HR2 := hi_ (HR.out.trans (show _ = (6 : Int) by rw [firstE_some hlt HPre.out HE.out]))
        go_wp2
        go_ret
        exact ⟨by rw [HR2.out]; rfl, below_step HW.out (by first | exact HB | exact below_alloc HB _ | exact ba2 HB | exact ba3 HB)⟩
      have HF1 := hi_ (HF.out.trans (if_neg (show ¬ ident yn = false by rw [show ident yn = true from h1]; simp)))
      clear HF h1
      cases h2 : okW yw
      · have HE := hi_ (HF1.out.trans (if_pos h2))
        have HR2 := hi_ (HR.out.trans (show _ = (10 : Int) by rw [firstE_some hlt HPre.out HE.out]))
        have h3 : yw < 1 ∨ (1 ≤ yw ∧ 32 < yw) := by have := okW_not.1 h2; omega
        rcases h3 with h3 | ⟨h3, h4⟩
        all_goals
          go_wp2
          go_ret
          exact ⟨by rw [HR2.out]; rfl, below_step HW.out (by first | exact HB | exact below_alloc HB _ | exact ba2 HB | exact ba3 HB)⟩
      have HF2 := hi_ (HF1.out.trans (if_neg (by rw [h2]; simp)))
      clear HF1
      obtain ⟨yw1, yw2⟩ := okW_iff.1 h2
      have hi1 : (k : Int) ≤ (l.length : Int) := by omega
      have hi2 : k ≤ c0 := by omega
      refine Exists.elim (box1 wr #[.string yn, .int .i64 yw] 135) ?_
      rintro U ⟨hU, hu, hUU, hbx⟩
      have HU := hi_ (below_step HB hu)
      have HUU := hi_ hUU
      have HSz : Hid (U.heap.size = wr.heap.size + 1) := hi_ (by rw [hU]; simp)
      go_wp2
      rw [← hU]
      clear hU hu hUU d0 d1 HB hca
      generalize wr.heap.size = gb at *
      go_loopw [6, 47] (fun _ iv wx => ∃ j : Nat, j ≤ k ∧ iv = .int .i64 j ∧ (∀ t (ht : t < l.length), t < j → l[t].name ≠ yn) ∧ Below U.heap.size U wx) (fun _ i _ => k - (intOf i).toNat)
      case atStart => exact ⟨0, Nat.zero_le _, rfl, fun t _ h => absurd h (Nat.not_lt_zero _), HUU.out⟩
      case round =>
        obtain ⟨j, hj, rfl, hpre2, HB⟩ := hrel
        have HPre2 := hi_ hpre2
        clear hpre2
        by_cases hlt2 : j < k
        · obtain ⟨e0, e1⟩ := HAL.out wr (below_step HU.out HB) j (by omega)
          have f0 : wr.cell? ⟨gb, 0, none⟩ = some (.string yn) := hbx wr HB 0 (show 0 < 2 by decide)
          have f1 : wr.cell? ⟨gb, 1, none⟩ = some (.int .i64 yw) := hbx wr HB 1 (show 1 < 2 by decide)
          have HY := hi_ (HDy.out j (by omega) hlt2)
          have HNx : Hid (l[j].name ≠ yn → ∀ t (ht : t < l.length), t < j + 1 → l[t].name ≠ yn) := hi_ (fun hf t ht h => by
            rcases Nat.lt_succ_iff_lt_or_eq.1 h with h1 | rfl
            · exact HPre2.out t ht h1
            · exact hf)
          generalize l[j] = z at *
          obtain ⟨zn, zw⟩ := z
          simp only at e0 e1 HY HNx
          refine Exists.elim (⟨_, rfl⟩ : ∃ V, V = wr.alloc (.cells #[.string zn, .int .i64 yw] 135)) fun V hV => ?_
          have hBz : Blk V wr.heap.size 135 #[.string zn, .int .i64 yw] := by rw [hV]; exact Blk.new _ _ _
          have hBV : Below U.heap.size U V := by rw [hV]; exact below_alloc HB _
          have HBV := hi_ hBV
          have g0 : V.cell? ⟨wr.heap.size, 0, none⟩ = some (.string zn) := hBz.cell 0
          have g1 : V.cell? ⟨wr.heap.size, 1, none⟩ = some (.int .i64 yw) := hBz.cell 1
          have f2 : V.cell? ⟨gb, 0, none⟩ = some (.string yn) := hbx V hBV 0 (show 0 < 2 by decide)
          have f3 : V.cell? ⟨gb, 1, none⟩ = some (.int .i64 yw) := hbx V hBV 1 (show 1 < 2 by decide)
          have hca := @World.cell?_alloc_some
          clear hBz hBV
          go_upto_region 18 with fail
          rw [← hV]
          clear hV e0 e1 f0 f1 hca HB
          by_cases he : zn = yn
          · have HE := hi_ (HF2.out.trans (if_pos (HY.out he)))
            have HR2 := hi_ (HR.out.trans (show _ = (7 : Int) by rw [firstE_some hlt HPre.out HE.out]))
            have he' := toList_true he
            clear he
            go_wp2
            go_ret
            exact ⟨by rw [HR2.out]; rfl, below_step HW.out (below_step HU.out HBV.out)⟩
          · have he' := toList_false he
            have HN2 := hi_ (HNx.out he)
            clear he
            go_wp2
            go_roundw
            case rel => exact ⟨j + 1, by omega, by go_num, HN2.out, HBV.out⟩
            case measure => simp [intOf]; omega
        · have HE := hi_ (HF2.out.trans (if_neg (by rw [HDn.out (fun t ht h => HPre2.out t ht (by omega))]; simp)))
          go_wp2
          go_roundw
          case rel => exact ⟨k + 1, by omega, by go_num, firstE_step HPre.out HE.out, below_step HU.out HB⟩
          case measure => simp [intOf]; omega
    · have e : k = l.length := by omega
      have hpre := HPre.out
      rw [e] at hpre
      have HR2 := hi_ (HR.out.trans (show _ = (if Int.tmod (l.map FieldD.width).sum 8 ≠ 0 then (10 : Int) else 0) by rw [firstE_none hpre, widthSum]))
      have hfine : ∀ v ∈ l.map FieldD.width, 1 ≤ v ∧ v ≤ 32 := by
        intro v hv
        obtain ⟨f, hf, rfl⟩ := List.mem_map.1 hv
        obtain ⟨i, hi, rfl⟩ := List.mem_iff_getElem.1 hf
        exact okW_iff.1 (fld_fine hi (hpre i hi))
      have HFi := hi_ hfine
      clear e hpre hfine HPre
      go_wp2_with fail
      refine (widths_any ⟨nm, ⟨l, some ⟨g, of, none⟩, c0⟩⟩ wr (HX.out.below HB (Nat.le_refl _)) (by simp only; omega)).mono ?_
      rintro e w2 ⟨A, c, rfl, hl, hb2⟩
      replace HB := below_step HB hb2
      clear hb2
      go_wp2_with fail
      have hs := hsum_any ⟨l.map FieldD.width, A, c⟩ w2 hl (by simp only [List.length_map]; omega) HFi.out
      simp only [List.length_map] at hs
      refine hs.mono ?_
      rintro e w3 ⟨rfl, rfl⟩
      clear hs hl
      have hbd := sumI_bound _ HFi.out
      rw [List.length_map] at hbd
      obtain ⟨b1, b2⟩ := hbd
      generalize (l.map FieldD.width).sum = sm at *
      rw [Int.tmod_eq_emod_of_nonneg b1] at HR2
      by_cases h8 : sm % 8 = 0
      · have HR3 := hi_ (HR2.out.trans (if_neg (fun h => h h8)))
        have h8' : (sm % 8 == 0) = true := beq_iff_eq.2 h8
        clear h8
        go_wp2
        go_ret
        exact ⟨by rw [HR3.out]; rfl, below_step HW.out HB⟩
      · have HR3 := hi_ (HR2.out.trans (if_pos h8))
        have h8' : (sm % 8 == 0) = false := beq_eq_false_iff_ne.2 h8
        clear h8
        go_wp2
        go_ret
        exact ⟨by rw [HR3.out]; rfl, below_step HW.out HB⟩
theorem rep_at (l : List ByteArray) (n g c i : Nat) (w0 w : World) (hn : l.length = n) (hi : i < n) (hm : n ≤ 1000)
    (hg : g < w0.heap.size ∧ l.length ≤ c ∧ ∀ j, j < l.length → w0.cell? ⟨g, 0 + j, none⟩ = some (.string (l.getD j ByteArray.empty))) (hb : Below w0.heap.size w0 w) :
    Calls Tryz.prog 122 #[.slice (some ⟨g, 0, none⟩) n c, .int .i64 i] w fun e w' => e = .returned (.bool (dupB l i)) ∧ Below w.heap.size w w' := by
  subst hn
  exact repeated_any l g c i w hi hm hg.2.1 (fun j hj => below_cell hb (hg.2.2 j hj))
theorem meta_list : metaName.toList = [109, 101, 116, 97] := by rw [toList_data]; rfl
theorem meta_true {s : ByteArray} (h : s = metaName) : (s.toList == [109, 101, 116, 97]) = true := by rw [h, meta_list]; rfl
theorem meta_false {s : ByteArray} (h : ¬ s = metaName) : (s.toList == [109, 101, 116, 97]) = false := beq_eq_false_iff_ne.2 fun e => h (toList_inj.1 (e.trans meta_list.symm))
theorem hdrAtM_at (l : List HeaderD) (k : Nat) (h : k < l.length) : hdrAtM l k = if hdrM l[k] ≠ 0 then some ⟨hdrM l[k], 1, k, 0⟩ else if l[k].name = metaName then some ⟨6, 1, k, 0⟩ else if dupB (l.map HeaderD.name) k = true then some ⟨7, 1, k, 0⟩ else none := by
  rw [hdrAtM, List.getElem?_eq_getElem h]
theorem checkHeaders_any (p : ProgD) (w : World) (o : ProgOk w p) (hl : p.headers.l.length ≤ 100) (hc : ∀ h ∈ p.headers.l, h.fields.l.length ≤ h.fields.c) :
    Calls Tryz.prog 85 #[.agg (progCells p)] w fun e w' => e = outE (hdrsM p) ∧ Below w.heap.size w w' := by
  obtain ⟨W, hW, hw, HB, hp⟩ := box1 w (progCells p) 31
  have HW := hi_ hw
  have HOW := hi_ (o.below hw)
  have HC := hi_ hc
  have HR := hi_ (hdrsM.eq_1 p)
  have HS := hi_ (hdrAtM_at p.headers.l)
  have HL := hi_ hl
  clear o hw hc
  have hn := names_header p.headers W HOW.out.headers hl
  simp only [L.v] at hn
  by_cases h0 : p.headers.l.length = 0
  · have HR2 := hi_ (HR.out.trans (show _ = (none : Option DiagD) by rw [h0]; rfl))
    have HNm := hi_ hn
    have h1 : ¬ ((0 : Int) < (p.headers.l.length : Int)) := by omega
    have h2 : (p.headers.l.length : Int) ≤ 0 := by omega
    clear h0 hn
    go_enter Tryz.func85, Tryz.ntmps85
    go_upto_region 1 with fail
    rw [← hW]
    clear hW
    go_wp2_with fail
    refine HNm.out.mono ?_
    rintro e w1 ⟨A, c, rfl, _, hb1⟩
    replace HB := below_step HB hb1
    clear hb1
    go_wp2
    refine wp_loop_rounds 1 ?_
    rw [rounds_succ]
    go_wp2
    go_end0
    exact ⟨by rw [HR2.out]; rfl, below_step HW.out HB⟩
  obtain ⟨g, of, hA, hall⟩ := HeaderD.allA HOW.out.headers (show 0 < p.headers.l.length by omega)
  have HAL := hi_ hall
  have HAA := hi_ hA
  rw [hA] at hn
  simp only [progCells, hA] at hp hW ⊢
  have HNm := hi_ hn
  clear hA hall hn
  go_enter Tryz.func85, Tryz.ntmps85
  go_upto_region 1 with fail
  rw [← hW]
  clear hW
  go_wp2_with fail
  refine HNm.out.mono ?_
  rintro e w1 ⟨A, c, rfl, hown, hb1⟩
  obtain ⟨gn, rfl, hg⟩ := OwnStrs.form hown (by rw [List.length_map]; omega)
  have HG := hi_ hg
  replace HB := below_step HB hb1
  have HB1 := hi_ HB
  clear hb1 hown hg HNm h0
  go_wp2
  clear HB
  go_loopw [3, 4, 11] (fun _ _ iv wr => ∃ k : Nat, k ≤ p.headers.l.length ∧ iv = .int .i64 k ∧ (∀ j, j < k → hdrAtM p.headers.l j = none) ∧ Below w1.heap.size w1 wr) (fun _ _ i _ => p.headers.l.length - (intOf i).toNat)
  case atStart => exact ⟨0, Nat.zero_le _, rfl, fun j h => absurd h (Nat.not_lt_zero _), Below.refl _ _⟩
  case round =>
    obtain ⟨k, hk, rfl, hpre, HB⟩ := hrel
    have HPre := hi_ hpre
    clear hpre
    by_cases hlt : k < p.headers.l.length
    · obtain ⟨d0, d1⟩ := HAL.out wr (below_step HB1.out HB) k hlt
      have HE := hi_ (HS.out k hlt)
      have HX : Hid (HeaderOk W p.headers.l[k]) := hi_ (HOW.out.hdr _ (List.getElem_mem hlt))
      have HCk := hi_ (HC.out _ (List.getElem_mem hlt))
      generalize p.headers.l[k] = y at *
      obtain ⟨yn, ⟨yl, yA, yc⟩⟩ := y
      simp only at HE HCk d0 d1
      have hca := @World.cell?_alloc_some
      go_wp2_with fail
      refine (headerCheck_any ⟨yn, ⟨yl, yA, yc⟩⟩ (wr.alloc (.cells #[.string yn, .slice yA yl.length yc] 96)) (HX.out.below (below_step HB1.out (by first | exact HB | exact below_alloc HB _ | exact ba2 HB | exact ba3 HB))) HCk.out).mono ?_
      rintro e w2 ⟨rfl, hbN⟩
      have f0 : w2.cell? ⟨wr.heap.size, 0, none⟩ = some (.string yn) := below_cell hbN (by simp)
      replace HB := below_step (by first | exact HB | exact below_alloc HB _ | exact ba2 HB | exact ba3 HB) hbN
      clear hbN d0 d1 hca
      generalize hdrM ⟨yn, ⟨yl, yA, yc⟩⟩ = hc at *
      by_cases k1 : hc = 0
      case neg =>
        have HE2 := hi_ (HE.out.trans (if_pos k1))
        have HR2 := hi_ (HR.out.trans (firstE_some hlt HPre.out HE2.out))
        go_wp2_with fail
        refine (require_bad hc 1 k 0 _ (beq_eq_false_iff_ne.2 k1)).mono ?_
        rintro e w' ⟨rfl, rfl⟩
        go_wp2
        exact ⟨rfl, by rw [HR2.out]; rfl, below_step HW.out (below_step HB1.out HB)⟩
      subst k1
      have HE2 := hi_ (HE.out.trans (if_neg (by simp)))
      go_wp2_with fail
      refine (require_ok _ _ _ _).mono ?_
      rintro e w' ⟨rfl, rfl⟩
      by_cases he : yn = metaName
      case pos =>
        have HE3 := hi_ (HE2.out.trans (if_pos he))
        have HR2 := hi_ (HR.out.trans (firstE_some hlt HPre.out HE3.out))
        have he' := meta_true he
        clear he
        go_wp2_with fail
        refine (when_true _ _ _ rfl).mono ?_
        rintro e w' ⟨rfl, rfl⟩
        go_wp2_with fail
        refine (require_bad 6 1 k 0 _ rfl).mono ?_
        rintro e w' ⟨rfl, rfl⟩
        go_wp2
        exact ⟨rfl, by rw [HR2.out]; rfl, below_step HW.out (below_step HB1.out HB)⟩
      have HE3 := hi_ (HE2.out.trans (if_neg he))
      have he' := meta_false he
      clear he
      go_wp2_with fail
      refine (when_false _ _ _ rfl).mono ?_
      rintro e w' ⟨rfl, rfl⟩
      go_wp2_with fail
      refine (require_ok _ _ _ _).mono ?_
      rintro e w' ⟨rfl, rfl⟩
      go_wp2_with fail
      refine (rep_at (p.headers.l.map HeaderD.name) p.headers.l.length gn c k w1 _ (by simp) hlt (by have := HL.out; omega) HG.out HB).mono ?_
      rintro e w3 ⟨rfl, hbN⟩
      replace HB := below_step (by first | exact HB | exact below_alloc HB _ | exact ba2 HB | exact ba3 HB) hbN
      clear hbN
      cases hd : dupB (p.headers.l.map HeaderD.name) k
      case true =>
        have HE4 := hi_ (HE3.out.trans (if_pos hd))
        have HR2 := hi_ (HR.out.trans (firstE_some hlt HPre.out HE4.out))
        go_wp2_with fail
        refine (when_true _ _ _ rfl).mono ?_
        rintro e w' ⟨rfl, rfl⟩
        go_wp2_with fail
        refine (require_bad 7 1 k 0 _ rfl).mono ?_
        rintro e w' ⟨rfl, rfl⟩
        go_wp2
        exact ⟨rfl, by rw [HR2.out]; rfl, below_step HW.out (below_step HB1.out HB)⟩
      have HE4 := hi_ (HE3.out.trans (if_neg (by rw [hd]; simp)))
      go_wp2_with fail
      refine (when_false _ _ _ rfl).mono ?_
      rintro e w' ⟨rfl, rfl⟩
      go_wp2_with fail
      refine (require_ok _ _ _ _).mono ?_
      rintro e w' ⟨rfl, rfl⟩
      go_wp2
      go_roundw
      case rel => exact ⟨k + 1, by omega, by go_num, firstE_step HPre.out HE4.out, HB⟩
      case measure => simp [intOf]; omega
    · have e : k = p.headers.l.length := by omega
      have HR2 := hi_ (HR.out.trans (firstE_none (by rw [← e]; exact HPre.out)))
      go_wp2
      go_end0
      exact ⟨by rw [HR2.out]; rfl, below_step HW.out (below_step HB1.out HB)⟩
theorem sized_any (nm : ByteArray) (wd sz : Int) (w : World) :
    Calls Tryz.prog 169 #[.agg #[.string nm, .int .i64 wd, .int .i64 sz]] w fun e w' => e = .returned (.bool (decide (1 ≤ sz) && decide (sz ≤ 64))) ∧ Below w.heap.size w w' := by
  go_enter Tryz.func169, Tryz.ntmps169
  go_wp2
  all_goals (go_ret; exact ⟨ret_bool (by rw [Bool.eq_iff_iff]; simp; omega), below1 _ _⟩)
theorem registerCheck_any (r : RegD) (w : World) (hs : r.name.size ≤ maxLen) :
    Calls Tryz.prog 128 #[.agg #[.string r.name, .int .i64 r.width, .int .i64 r.size]] w fun e w' => e = .returned (.int .i64 (regM r)) ∧ Below w.heap.size w w' := by
  obtain ⟨nm, wd, sz⟩ := r
  have HS := hi_ hs
  obtain ⟨W, hW, hw, HB, hp⟩ := box1 w #[.string nm, .int .i64 wd, .int .i64 sz] 120
  have HW := hi_ hw
  clear hs hw
  have HR : Hid (regM ⟨nm, wd, sz⟩ = if ident nm = false then 6 else if okW wd = false then 10 else if sz < 1 ∨ 64 < sz then 9 else 0) := hi_ rfl
  have hz := mask_zero wd
  go_enter Tryz.func128, Tryz.ntmps128
  go_wp2_with fail
  rw [← hW]
  clear hW
  refine (isIdent_any nm _ HS.out).mono ?_
  rintro e w' ⟨rfl, rfl⟩
  cases h1 : identM nm.data.toList
  · replace HR := hi_ (HR.out.trans (if_pos (show ident nm = false from h1)))
    go_wp2
    go_ret
    exact ⟨by rw [HR.out]; rfl, below_step HW.out HB⟩
  replace HR := hi_ (HR.out.trans (if_neg (show ¬ ident nm = false by rw [show ident nm = true from h1]; simp)))
  go_wp2_with fail
  refine (mask_any wd _).mono ?_
  rintro e w1 ⟨rfl, hbN⟩
  replace HB := below_step (by first | exact HB | exact below_alloc HB _ | exact ba2 HB | exact ba3 HB) hbN
  clear hbN
  cases h2 : okW wd
  · replace HR := hi_ (HR.out.trans (if_pos h2))
    rw [h2] at hz
    go_wp2
    go_ret
    exact ⟨by rw [HR.out]; rfl, below_step HW.out HB⟩
  replace HR := hi_ (HR.out.trans (if_neg (show ¬ okW wd = false by rw [h2]; simp)))
  rw [h2] at hz
  go_wp2_with fail
  refine (sized_any nm wd sz _).mono ?_
  rintro e w2 ⟨rfl, hbN⟩
  replace HB := below_step (by first | exact HB | exact below_alloc HB _ | exact ba2 HB | exact ba3 HB) hbN
  clear hbN
  cases h3 : (decide (1 ≤ sz) && decide (sz ≤ 64))
  · replace HR := hi_ (HR.out.trans (if_pos (by simp at h3; omega)))
    go_wp2
    go_ret
    exact ⟨by rw [HR.out]; rfl, below_step HW.out HB⟩
  · replace HR := hi_ (HR.out.trans (if_neg (by simp at h3; omega)))
    go_wp2
    go_ret
    exact ⟨by rw [HR.out]; rfl, below_step HW.out HB⟩
theorem checkLimits_any (p : ProgD) (w : World) (hs : p.name.size ≤ maxLen) :
    Calls Tryz.prog 84 #[p.val] w fun e w' => e = outE (limM p) ∧ Below w.heap.size w w' := by
  have HS := hi_ hs
  clear hs
  obtain ⟨W, hW, hb, H0, hp⟩ := prog_box w p 31
  have HB := hi_ hb
  clear hb
  simp only [ProgD.val, L.v]
  go_enter Tryz.func84, Tryz.ntmps84
  go_wp2_with fail
  rw [← hW]
  clear hW
  refine (identifier_any p.name _ HS.out).mono ?_
  rintro e w' ⟨rfl, rfl⟩
  by_cases k1 : ident p.name = false
  · have HR := hi_ (show limM p = some ⟨6, 0, 0, 0⟩ by rw [limM, if_pos k1])
    rw [k1]
    go_wp2_with fail
    refine (when_true _ _ _ rfl).mono ?_
    rintro e w' ⟨rfl, rfl⟩
    go_wp2_with fail
    refine (require_bad 6 0 0 0 _ rfl).mono ?_
    rintro e w' ⟨rfl, rfl⟩
    go_wp2
    exact ⟨rfl, by rw [HR.out]; rfl, HB.out⟩
  have k1' : ident p.name = true := by simpa using k1
  rw [k1']
  go_wp2_with fail
  refine (when_false _ _ _ rfl).mono ?_
  rintro e w' ⟨rfl, rfl⟩
  go_wp2_with fail
  refine (require_ok _ _ _ _).mono ?_
  rintro e w' ⟨rfl, rfl⟩
  by_cases k2 : 8 < p.headers.l.length
  · have HR := hi_ (show limM p = some ⟨12, 0, 1, 0⟩ by rw [limM, if_neg k1, if_pos k2])
    go_wp2_with fail
    refine (when_true _ _ _ (by first | rfl | (simp; omega))).mono ?_
    rintro e w' ⟨rfl, rfl⟩
    go_wp2_with fail
    refine (require_bad 12 0 1 0 _ rfl).mono ?_
    rintro e w' ⟨rfl, rfl⟩
    go_wp2
    exact ⟨rfl, by rw [HR.out]; rfl, HB.out⟩
  go_wp2_with fail
  refine (when_false _ _ _ (by first | rfl | (simp; omega))).mono ?_
  rintro e w' ⟨rfl, rfl⟩
  go_wp2_with fail
  refine (require_ok _ _ _ _).mono ?_
  rintro e w' ⟨rfl, rfl⟩
  by_cases k3 : 4 < p.registers.l.length
  · have HR := hi_ (show limM p = some ⟨12, 0, 3, 0⟩ by rw [limM, if_neg k1, if_neg k2, if_pos k3])
    go_wp2_with fail
    refine (when_true _ _ _ (by first | rfl | (simp; omega))).mono ?_
    rintro e w' ⟨rfl, rfl⟩
    go_wp2_with fail
    refine (require_bad 12 0 3 0 _ rfl).mono ?_
    rintro e w' ⟨rfl, rfl⟩
    go_wp2
    exact ⟨rfl, by rw [HR.out]; rfl, HB.out⟩
  go_wp2_with fail
  refine (when_false _ _ _ (by first | rfl | (simp; omega))).mono ?_
  rintro e w' ⟨rfl, rfl⟩
  go_wp2_with fail
  refine (require_ok _ _ _ _).mono ?_
  rintro e w' ⟨rfl, rfl⟩
  by_cases k4 : 16 < p.actions.l.length
  · have HR := hi_ (show limM p = some ⟨12, 0, 4, 0⟩ by rw [limM, if_neg k1, if_neg k2, if_neg k3, if_pos k4])
    go_wp2_with fail
    refine (when_true _ _ _ (by first | rfl | (simp; omega))).mono ?_
    rintro e w' ⟨rfl, rfl⟩
    go_wp2_with fail
    refine (require_bad 12 0 4 0 _ rfl).mono ?_
    rintro e w' ⟨rfl, rfl⟩
    go_wp2
    exact ⟨rfl, by rw [HR.out]; rfl, HB.out⟩
  go_wp2_with fail
  refine (when_false _ _ _ (by first | rfl | (simp; omega))).mono ?_
  rintro e w' ⟨rfl, rfl⟩
  go_wp2_with fail
  refine (require_ok _ _ _ _).mono ?_
  rintro e w' ⟨rfl, rfl⟩
  by_cases k5 : 12 < p.tables.l.length
  · have HR := hi_ (show limM p = some ⟨12, 0, 5, 0⟩ by rw [limM, if_neg k1, if_neg k2, if_neg k3, if_neg k4, if_pos k5])
    go_wp2_with fail
    refine (when_true _ _ _ (by first | rfl | (simp; omega))).mono ?_
    rintro e w' ⟨rfl, rfl⟩
    go_wp2_with fail
    refine (require_bad 12 0 5 0 _ rfl).mono ?_
    rintro e w' ⟨rfl, rfl⟩
    go_wp2
    exact ⟨rfl, by rw [HR.out]; rfl, HB.out⟩
  have HR := hi_ (show limM p = none by rw [limM, if_neg k1, if_neg k2, if_neg k3, if_neg k4, if_neg k5])
  go_wp2_with fail
  refine (when_false _ _ _ (by first | rfl | (simp; omega))).mono ?_
  rintro e w' ⟨rfl, rfl⟩
  go_wp2_with fail
  refine (require_ok _ _ _ _).mono ?_
  rintro e w' ⟨rfl, rfl⟩
  go_wp2
  go_end0
  exact ⟨by rw [HR.out]; rfl, HB.out⟩
theorem regAtM_at (l : List RegD) (k : Nat) (h : k < l.length) : regAtM l k = if regM l[k] ≠ 0 then some ⟨regM l[k], 3, k, 0⟩ else if dupB (l.map RegD.name) k = true then some ⟨7, 3, k, 0⟩ else none := by
  rw [regAtM, List.getElem?_eq_getElem h]
theorem actAtM_at (p : ProgD) (k : Nat) (h : k < p.actions.l.length) : actAtM p k = if (actM p p.actions.l[k]).2 ≠ 0 then some ⟨(actM p p.actions.l[k]).2, 4, k, (actM p p.actions.l[k]).1⟩ else if dupB (p.actions.l.map ActD.name) k = true then some ⟨7, 4, k, 0⟩ else none := by
  rw [actAtM, List.getElem?_eq_getElem h]
theorem tabAtM_at (p : ProgD) (k : Nat) (h : k < p.tables.l.length) : tabAtM p k = if (tabM p p.tables.l[k]).2 ≠ 0 then some ⟨(tabM p p.tables.l[k]).2, 5, k, (tabM p p.tables.l[k]).1⟩ else if dupB (p.tables.l.map TabD.name) k = true then some ⟨7, 5, k, 0⟩ else none := by
  rw [tabAtM, List.getElem?_eq_getElem h]
def objsM (p : ProgD) : Option DiagD := orE (regsM p) (orE (actsM p) (tabsM p))
theorem objs1 {p : ProgD} {d : DiagD} (h : regsM p = some d) : objsM p = some d := by rw [objsM, h]; rfl
theorem objs2 {p : ProgD} (h : regsM p = none) : objsM p = orE (actsM p) (tabsM p) := by rw [objsM, h]; rfl
theorem or1 {α : Type} {a b : Option α} {d : α} (h : a = some d) : orE a b = some d := by rw [h]; rfl
theorem or2 {α : Type} {a b : Option α} (h : a = none) : orE a b = b := by rw [h]; rfl
theorem checkObjects_any (p : ProgD) (w : World) (o : ProgOk w p) (hr : p.registers.l.length ≤ 100) (ha : p.actions.l.length ≤ 100) (ht : p.tables.l.length ≤ 100)
    (hc1 : ∀ a ∈ p.actions.l, a.params.l.length ≤ a.params.c) (hc2 : ∀ t ∈ p.tables.l, (Lit.int .i64 t.defA).wf = true) :
    Calls Tryz.prog 87 #[.agg (progCells p)] w fun e w' => e = outE (objsM p) ∧ Below w.heap.size w w' := by
  obtain ⟨W, hW, hw, HB, hp⟩ := box1 w (progCells p) 31
  have HW := hi_ hw
  have HOW := hi_ (o.below hw)
  have HRr := hi_ (regsM.eq_1 p)
  have HRa := hi_ (actsM.eq_1 p)
  have HRt := hi_ (tabsM.eq_1 p)
  have HSr := hi_ (regAtM_at p.registers.l)
  have HSa := hi_ (actAtM_at p)
  have HSt := hi_ (tabAtM_at p)
  have HL := hi_ (And.intro hr (And.intro ha ht))
  have HLK := hi_ HOW.out.registers
  have HNr := hi_ (fun w' (h : Below W.heap.size W w') => names_register p.registers w' (HOW.out.registers.below h (Nat.le_refl _)) hr)
  have HNa := hi_ (fun w' (h : Below W.heap.size W w') => names_action p.actions w' (HOW.out.actions.below h (Nat.le_refl _)) ha)
  have HNt := hi_ (fun w' (h : Below W.heap.size W w') => names_table p.tables w' (HOW.out.tables.below h (Nat.le_refl _)) ht)
  have HCa := hi_ (fun k hk w' (h : Below W.heap.size W w') => actionCheck_any p k hk w' (HOW.out.below h) hc1)
  have HCt := hi_ (fun k hk w' (h : Below W.heap.size W w') => tableCheck_any p k hk w' (HOW.out.below h) hc2)
  have HRN : Hid (∀ r ∈ p.registers.l, r.name.size ≤ maxLen) := hi_ HOW.out.rnames
  clear o hw hc1 hc2
  obtain ⟨⟨rl, rA, rc⟩, hreg⟩ : ∃ x, p.registers = x := ⟨_, rfl⟩
  simp only [progCells, hreg] at hp hW ⊢
  rw [hreg] at hr HLK HSr HRN
  have HREG := hi_ hreg
  simp only at hr HSr HRN
  clear hreg
  go_enter Tryz.func87, Tryz.ntmps87
  go_upto_region 1 with fail
  rw [← hW]
  clear hW
  go_wp2_with fail
  have hn := HNr.out W HB
  rw [HREG.out] at hn
  refine hn.mono ?_
  clear hn
  rintro e w1 ⟨A, c, rfl, hown, hb1⟩
  have HOwn := hi_ hown
  replace HB := below_step HB hb1
  have HB1 := hi_ HB
  clear hb1 hown
  simp only
  go_wp2
  clear HB
  go_loopw [3, 4, 17] (fun _ _ iv wr => ∃ k : Nat, k ≤ rl.length ∧ iv = .int .i64 k ∧ (∀ j, j < k → regAtM rl j = none) ∧ Below w1.heap.size w1 wr) (fun _ _ i _ => rl.length - (intOf i).toNat)
  case atStart => exact ⟨0, Nat.zero_le _, rfl, fun j h => absurd h (Nat.not_lt_zero _), Below.refl _ _⟩
  case round =>
    obtain ⟨k, hk, rfl, hpre, HB⟩ := hrel
    have HPre := hi_ hpre
    clear hpre
    by_cases hlt : k < rl.length
    · obtain ⟨g, of, hA, d0, d1, d2⟩ := RegD.at (HLK.out.below (below_step HB1.out HB) (Nat.le_refl _)) hlt
      have HE := hi_ (HSr.out k hlt)
      have HNk := hi_ (HRN.out _ (List.getElem_mem hlt))
      simp only at hA d0 d1 d2
      subst hA
      generalize rl[k] = y at *
      obtain ⟨yn, yw, ys⟩ := y
      simp only at HE HNk d0 d1 d2
      obtain ⟨gn, rfl, hg⟩ := OwnStrs.form HOwn.out (show 0 < (rl.map RegD.name).length by rw [List.length_map]; omega)
      have HG := hi_ hg
      clear hg
      have hca := @World.cell?_alloc_some
      go_wp2_with fail
      refine (registerCheck_any ⟨yn, yw, ys⟩ _ HNk.out).mono ?_
      rintro e w2 ⟨rfl, hbN⟩
      replace HB := below_step (by first | exact HB | exact below_alloc HB _ | exact ba2 HB | exact ba3 HB) hbN
      clear hbN
      clear d0 d1 d2 hca
      generalize regM ⟨yn, yw, ys⟩ = rc at *
      by_cases k1 : rc = 0
      case neg =>
        have HE2 := hi_ (HE.out.trans (if_pos k1))
        have HR2 := hi_ (objs1 (HRr.out.trans (show _ = some (⟨rc, 3, k, 0⟩ : DiagD) by rw [HREG.out]; exact firstE_some hlt HPre.out HE2.out)))
        go_wp2_with fail
        refine (require_bad rc 3 k 0 _ (beq_eq_false_iff_ne.2 k1)).mono ?_
        rintro e w' ⟨rfl, rfl⟩
        go_wp2
        exact ⟨rfl, by rw [HR2.out]; rfl, below_step HW.out (below_step HB1.out HB)⟩
      subst k1
      have HE2 := hi_ (HE.out.trans (if_neg (by simp)))
      go_wp2_with fail
      refine (require_ok _ _ _ _).mono ?_
      rintro e w' ⟨rfl, rfl⟩
      go_wp2_with fail
      refine (rep_at (rl.map RegD.name) rl.length gn c k w1 _ (by simp) hlt (by omega) HG.out HB).mono ?_
      rintro e w3 ⟨rfl, hbN⟩
      replace HB := below_step (by first | exact HB | exact below_alloc HB _ | exact ba2 HB | exact ba3 HB) hbN
      clear hbN
      cases hd : dupB (rl.map RegD.name) k
      case true =>
        have HE4 := hi_ (HE2.out.trans (if_pos hd))
        have HR2 := hi_ (objs1 (HRr.out.trans (show _ = some (⟨7, 3, k, 0⟩ : DiagD) by rw [HREG.out]; exact firstE_some hlt HPre.out HE4.out)))
        go_wp2_with fail
        refine (when_true _ _ _ rfl).mono ?_
        rintro e w' ⟨rfl, rfl⟩
        go_wp2_with fail
        refine (require_bad 7 3 k 0 _ rfl).mono ?_
        rintro e w' ⟨rfl, rfl⟩
        go_wp2
        exact ⟨rfl, by rw [HR2.out]; rfl, below_step HW.out (below_step HB1.out HB)⟩
      have HE4 := hi_ (HE2.out.trans (if_neg (by rw [hd]; simp)))
      go_wp2_with fail
      refine (when_false _ _ _ rfl).mono ?_
      rintro e w' ⟨rfl, rfl⟩
      go_wp2_with fail
      refine (require_ok _ _ _ _).mono ?_
      rintro e w' ⟨rfl, rfl⟩
      go_wp2
      go_roundw
      case rel => exact ⟨k + 1, by omega, by go_num, firstE_step HPre.out HE4.out, HB⟩
      case measure => simp [intOf]; omega
    have e : k = rl.length := by omega
    have HR2 := hi_ (objs2 (HRr.out.trans (show _ = (none : Option DiagD) by rw [HREG.out]; exact firstE_none (by rw [← e]; exact HPre.out))))
    have hkx : ¬ ((k : Int) < (rl.length : Int)) := by omega
    replace HB := below_step HB1.out HB
    clear HPre HB1 HOwn hlt e
    go_wp2_with fail
    refine (HNa.out _ HB).mono ?_
    rintro e w4 ⟨A2, c2, rfl, hown, hb1⟩
    have HOwn := hi_ hown
    replace HB := below_step HB hb1
    have HB4 := hi_ HB
    clear hb1 hown
    go_wp2
    have HBb := HB4
    clear HB4
    clear HB
    go_loopw [5, 6, 7, 39] (fun _ _ _ iv wr => ∃ k : Nat, k ≤ p.actions.l.length ∧ iv = .int .i64 k ∧ (∀ j, j < k → actAtM p j = none) ∧ Below w4.heap.size w4 wr) (fun _ _ _ i _ => p.actions.l.length - (intOf i).toNat)
    case atStart => exact ⟨0, Nat.zero_le _, rfl, fun j h => absurd h (Nat.not_lt_zero _), Below.refl _ _⟩
    case round =>
      obtain ⟨k, hk, rfl, hpre, HB⟩ := hrel
      have HPre := hi_ hpre
      clear hpre
      by_cases hlt : k < p.actions.l.length
      · have HE := hi_ (HSa.out k hlt)
        obtain ⟨gn, rfl, hg⟩ := OwnStrs.form HOwn.out (show 0 < (p.actions.l.map ActD.name).length by rw [List.length_map]; omega)
        have HG := hi_ hg
        clear hg
        have hp1 := hp wr (below_step HBb.out HB)
        go_wp2_with fail
        clear hp1
        have hCN := HCa.out k hlt wr (below_step HBb.out HB)
        simp only [progCells, HREG.out] at hCN
        refine hCN.mono ?_
        clear hCN
        rintro e w5 ⟨rfl, hbN⟩
        replace HB := below_step HB hbN
        clear hbN
        generalize actM p p.actions.l[k] = r at *
        obtain ⟨ra, rcd⟩ := r
        simp only at HE
        by_cases k1 : rcd = 0
        case neg =>
          have HE2 := hi_ (HE.out.trans (if_pos k1))
          have HR3 := hi_ (HR2.out.trans (or1 (HRa.out.trans (firstE_some hlt HPre.out HE2.out))))
          go_wp2_with fail
          refine (require_bad rcd 4 k ra _ (beq_eq_false_iff_ne.2 k1)).mono ?_
          rintro e w' ⟨rfl, rfl⟩
          go_wp2
          exact ⟨rfl, by rw [HR3.out]; rfl, below_step HW.out (below_step HBb.out HB)⟩
        subst k1
        have HE2 := hi_ (HE.out.trans (if_neg (by simp)))
        go_wp2_with fail
        refine (require_ok _ _ _ _).mono ?_
        rintro e w' ⟨rfl, rfl⟩
        go_wp2_with fail
        refine (rep_at (p.actions.l.map ActD.name) p.actions.l.length gn c2 k w4 _ (by simp) hlt (by have := HL.out; omega) HG.out HB).mono ?_
        rintro e w6 ⟨rfl, hbN⟩
        replace HB := below_step (by first | exact HB | exact below_alloc HB _ | exact ba2 HB | exact ba3 HB) hbN
        clear hbN
        cases hd : dupB (p.actions.l.map ActD.name) k
        case true =>
          have HE4 := hi_ (HE2.out.trans (if_pos hd))
          have HR3 := hi_ (HR2.out.trans (or1 (HRa.out.trans (firstE_some hlt HPre.out HE4.out))))
          go_wp2_with fail
          refine (when_true _ _ _ rfl).mono ?_
          rintro e w' ⟨rfl, rfl⟩
          go_wp2_with fail
          refine (require_bad 7 4 k 0 _ rfl).mono ?_
          rintro e w' ⟨rfl, rfl⟩
          go_wp2
          exact ⟨rfl, by rw [HR3.out]; rfl, below_step HW.out (below_step HBb.out HB)⟩
        have HE4 := hi_ (HE2.out.trans (if_neg (by rw [hd]; simp)))
        go_wp2_with fail
        refine (when_false _ _ _ rfl).mono ?_
        rintro e w' ⟨rfl, rfl⟩
        go_wp2_with fail
        refine (require_ok _ _ _ _).mono ?_
        rintro e w' ⟨rfl, rfl⟩
        go_wp2
        go_roundw
        case rel => exact ⟨k + 1, by omega, by go_num, firstE_step HPre.out HE4.out, HB⟩
        case measure => simp [intOf]; omega
      have e : k = p.actions.l.length := by omega
      have HR3 := hi_ (HR2.out.trans (or2 (HRa.out.trans (firstE_none (by rw [← e]; exact HPre.out)))))
      have hkx : ¬ ((k : Int) < (p.actions.l.length : Int)) := by omega
      replace HB := below_step HBb.out HB
      clear HPre HBb HOwn hlt e HR2
      have HR2 := HR3
      clear HR3
      go_wp2_with fail
      refine (HNt.out _ HB).mono ?_
      rintro e w7 ⟨A2, c2, rfl, hown, hb1⟩
      have HOwn := hi_ hown
      replace HB := below_step HB hb1
      have HBb := hi_ HB
      clear hb1 hown
      go_wp2
      clear HB
      go_loopw [8, 9, 10, 65] (fun _ _ _ iv wr => ∃ k : Nat, k ≤ p.tables.l.length ∧ iv = .int .i64 k ∧ (∀ j, j < k → tabAtM p j = none) ∧ Below w7.heap.size w7 wr) (fun _ _ _ i _ => p.tables.l.length - (intOf i).toNat)
      case atStart => exact ⟨0, Nat.zero_le _, rfl, fun j h => absurd h (Nat.not_lt_zero _), Below.refl _ _⟩
      case round =>
        obtain ⟨k, hk, rfl, hpre, HB⟩ := hrel
        have HPre := hi_ hpre
        clear hpre
        by_cases hlt : k < p.tables.l.length
        · have HE := hi_ (HSt.out k hlt)
          obtain ⟨gn, rfl, hg⟩ := OwnStrs.form HOwn.out (show 0 < (p.tables.l.map TabD.name).length by rw [List.length_map]; omega)
          have HG := hi_ hg
          clear hg
          have hp1 := hp wr (below_step HBb.out HB)
          go_wp2_with fail
          clear hp1
          have hCN := HCt.out k hlt wr (below_step HBb.out HB)
          simp only [progCells, HREG.out] at hCN
          refine hCN.mono ?_
          clear hCN
          rintro e w5 ⟨rfl, hbN⟩
          replace HB := below_step HB hbN
          clear hbN
          generalize tabM p p.tables.l[k] = r at *
          obtain ⟨ra, rcd⟩ := r
          simp only at HE
          by_cases k1 : rcd = 0
          case neg =>
            have HE2 := hi_ (HE.out.trans (if_pos k1))
            have HR3 := hi_ (HR2.out.trans (HRt.out.trans (firstE_some hlt HPre.out HE2.out)))
            go_wp2_with fail
            refine (require_bad rcd 5 k ra _ (beq_eq_false_iff_ne.2 k1)).mono ?_
            rintro e w' ⟨rfl, rfl⟩
            go_wp2
            exact ⟨rfl, by rw [HR3.out]; rfl, below_step HW.out (below_step HBb.out HB)⟩
          subst k1
          have HE2 := hi_ (HE.out.trans (if_neg (by simp)))
          go_wp2_with fail
          refine (require_ok _ _ _ _).mono ?_
          rintro e w' ⟨rfl, rfl⟩
          go_wp2_with fail
          refine (rep_at (p.tables.l.map TabD.name) p.tables.l.length gn c2 k w7 _ (by simp) hlt (by have := HL.out; omega) HG.out HB).mono ?_
          rintro e w6 ⟨rfl, hbN⟩
          replace HB := below_step (by first | exact HB | exact below_alloc HB _ | exact ba2 HB | exact ba3 HB) hbN
          clear hbN
          cases hd : dupB (p.tables.l.map TabD.name) k
          case true =>
            have HE4 := hi_ (HE2.out.trans (if_pos hd))
            have HR3 := hi_ (HR2.out.trans (HRt.out.trans (firstE_some hlt HPre.out HE4.out)))
            go_wp2_with fail
            refine (when_true _ _ _ rfl).mono ?_
            rintro e w' ⟨rfl, rfl⟩
            go_wp2_with fail
            refine (require_bad 7 5 k 0 _ rfl).mono ?_
            rintro e w' ⟨rfl, rfl⟩
            go_wp2
            exact ⟨rfl, by rw [HR3.out]; rfl, below_step HW.out (below_step HBb.out HB)⟩
          have HE4 := hi_ (HE2.out.trans (if_neg (by rw [hd]; simp)))
          go_wp2_with fail
          refine (when_false _ _ _ rfl).mono ?_
          rintro e w' ⟨rfl, rfl⟩
          go_wp2_with fail
          refine (require_ok _ _ _ _).mono ?_
          rintro e w' ⟨rfl, rfl⟩
          go_wp2
          go_roundw
          case rel => exact ⟨k + 1, by omega, by go_num, firstE_step HPre.out HE4.out, HB⟩
          case measure => simp [intOf]; omega
        have e : k = p.tables.l.length := by omega
        have HR3 := hi_ (HR2.out.trans (HRt.out.trans (firstE_none (by rw [← e]; exact HPre.out))))
        go_wp2
        go_end0
        exact ⟨by rw [HR3.out]; rfl, below_step HW.out (below_step HBb.out HB)⟩
theorem checkFlow_any (p : ProgD) (w : World) (o : ProgOk w p) (hc : ProgCap p) (hN : (presM p.control.l).length ≤ 90000) :
    Calls Tryz.prog 88 #[.agg (progCells p)] w fun e w' => e = outE (flowM p) ∧ Below w.heap.size w w' := by
  have HO := hi_ o
  have HC := hi_ hc
  have HN := hi_ hN
  have HR := hi_ (flowM.eq_1 p)
  obtain ⟨W, hW, hw, HB, hp⟩ := box1 w (progCells p) 31
  have HW := hi_ hw
  clear o hc hN hw
  go_enter Tryz.func88, Tryz.ntmps88
  go_upto_region 1 with fail
  rw [← hW]
  clear hW
  go_wp2_with fail
  refine (parserCheck_any p _ (HO.out.below (below_step HW.out (by first | exact HB | exact below_alloc HB _ | exact ba2 HB | exact ba3 HB))) HC.out.cases).mono ?_
  rintro e w1 ⟨rfl, hbN⟩
  replace HB := below_step (by first | exact HB | exact below_alloc HB _ | exact ba2 HB | exact ba3 HB) hbN
  clear hbN
  generalize parserM p = r at *
  obtain ⟨ri, rs, rc⟩ := r
  simp only at HR
  by_cases k1 : rc = 0
  case neg =>
    replace HR := hi_ (HR.out.trans (if_pos k1))
    go_wp2_with fail
    refine (require_bad rc 6 ri rs _ (beq_eq_false_iff_ne.2 k1)).mono ?_
    rintro e w' ⟨rfl, rfl⟩
    go_wp2
    exact ⟨rfl, by rw [HR.out]; rfl, below_step HW.out HB⟩
  subst k1
  replace HR := hi_ (HR.out.trans (if_neg (by simp)))
  go_wp2_with fail
  refine (require_ok _ _ _ _).mono ?_
  rintro e w' ⟨rfl, rfl⟩
  go_wp2_with fail
  refine (controlCheck_any p _ (HO.out.below (below_step HW.out (by first | exact HB | exact below_alloc HB _ | exact ba2 HB | exact ba3 HB))) HN.out).mono ?_
  rintro e w2 ⟨rfl, hbN⟩
  replace HB := below_step (by first | exact HB | exact below_alloc HB _ | exact ba2 HB | exact ba3 HB) hbN
  clear hbN
  generalize ctlM p = r at *
  obtain ⟨ri, rc⟩ := r
  simp only at HR
  by_cases k1 : rc = 0
  case neg =>
    replace HR := hi_ (HR.out.trans (if_pos k1))
    go_wp2_with fail
    refine (require_bad rc 7 ri 0 _ (beq_eq_false_iff_ne.2 k1)).mono ?_
    rintro e w' ⟨rfl, rfl⟩
    go_wp2
    exact ⟨rfl, by rw [HR.out]; rfl, below_step HW.out HB⟩
  subst k1
  replace HR := hi_ (HR.out.trans (if_neg (by simp)))
  go_wp2_with fail
  refine (require_ok _ _ _ _).mono ?_
  rintro e w' ⟨rfl, rfl⟩
  go_wp2_with fail
  refine (deparserCheck_any p _ (HO.out.below (below_step HW.out (by first | exact HB | exact below_alloc HB _ | exact ba2 HB | exact ba3 HB))) HC.out.dep).mono ?_
  rintro e w3 ⟨rfl, hbN⟩
  replace HB := below_step (by first | exact HB | exact below_alloc HB _ | exact ba2 HB | exact ba3 HB) hbN
  clear hbN
  generalize depM p = r at *
  obtain ⟨ri, rc⟩ := r
  simp only at HR
  by_cases k1 : rc = 0
  case neg =>
    replace HR := hi_ (HR.out.trans (if_pos k1))
    go_wp2_with fail
    refine (require_bad rc 8 ri 0 _ (beq_eq_false_iff_ne.2 k1)).mono ?_
    rintro e w' ⟨rfl, rfl⟩
    go_wp2
    exact ⟨rfl, by rw [HR.out]; rfl, below_step HW.out HB⟩
  subst k1
  replace HR := hi_ (HR.out.trans (if_neg (by simp)))
  go_wp2_with fail
  refine (require_ok _ _ _ _).mono ?_
  rintro e w' ⟨rfl, rfl⟩
  go_wp2
  go_end0
  exact ⟨by rw [HR.out]; rfl, below_step HW.out HB⟩
theorem mixed : Tryz.prog.follows .mixedOrders = true := by kernel_rfl
theorem when_flip (b : Bool) (c : Int) (w : World) : Calls Tryz.prog 117 #[.bool b, .int .i64 c] w fun e w' => e = .returned (.int .i64 (if b = true then c else 0)) ∧ w' = w := (when_any b c w).mono fun _ _ h => ⟨h.1, h.2.symm⟩
def mAt (l : List FieldD) (i : Nat) : Option DiagD := (fldM l i).map fun e => (⟨e, 2, i, 0⟩ : DiagD)
def wAt (l : List FieldD) (i : Nat) : Option DiagD := if isWant l i = false then some ⟨5, 2, i, 0⟩ else none
theorem metaM_eq (p : ProgD) : metaM p = if 12 < p.metadata.l.length then some ⟨12, 2, 0, 0⟩
  else match firstE p.metadata.l.length (mAt p.metadata.l) with
    | some d => some d
    | none => firstE 3 (wAt p.metadata.l) := rfl
theorem mAt_some {l : List FieldD} {i : Nat} {e : Int} (h : fldM l i = some e) : mAt l i = some ⟨e, 2, i, 0⟩ := by rw [mAt, h]; rfl
theorem mAt_none {l : List FieldD} {i : Nat} (h : fldM l i = none) : mAt l i = none := by rw [mAt, h]; rfl
theorem wAt_none {l : List FieldD} {i : Nat} (h : isWant l i = true) : wAt l i = none := by rw [wAt, h]; rfl
theorem wAt_some {l : List FieldD} {i : Nat} (h : isWant l i = false) : wAt l i = some ⟨5, 2, i, 0⟩ := by rw [wAt, h]; rfl
theorem want_out {l : List FieldD} {i : Nat} (h : l.length ≤ i) : isWant l i = false := by rw [isWant, List.getElem?_eq_none h]
theorem lit_in : (⟨#[105, 110]⟩ : ByteArray).toList = [105, 110] := by rw [toList_data]
theorem nm_in_yes {s : ByteArray} (h : s = (⟨#[105, 110]⟩ : ByteArray)) : (s.toList == [105, 110]) = true := by rw [h, lit_in]; rfl
theorem nm_in_no {s : ByteArray} (h : ¬ s = (⟨#[105, 110]⟩ : ByteArray)) : (s.toList == [105, 110]) = false := beq_eq_false_iff_ne.2 fun e => h (toList_inj.1 (e.trans lit_in.symm))
theorem want_in (l : List FieldD) (h : 0 < l.length) : isWant l 0 = (decide (l[0].name = (⟨#[105, 110]⟩ : ByteArray)) && decide (l[0].width = 8)) := by
  rw [isWant, List.getElem?_eq_getElem h]
  rfl
theorem lit_out : (⟨#[111, 117, 116]⟩ : ByteArray).toList = [111, 117, 116] := by rw [toList_data]
theorem nm_out_yes {s : ByteArray} (h : s = (⟨#[111, 117, 116]⟩ : ByteArray)) : (s.toList == [111, 117, 116]) = true := by rw [h, lit_out]; rfl
theorem nm_out_no {s : ByteArray} (h : ¬ s = (⟨#[111, 117, 116]⟩ : ByteArray)) : (s.toList == [111, 117, 116]) = false := beq_eq_false_iff_ne.2 fun e => h (toList_inj.1 (e.trans lit_out.symm))
theorem want_out_ (l : List FieldD) (h : 1 < l.length) : isWant l 1 = (decide (l[1].name = (⟨#[111, 117, 116]⟩ : ByteArray)) && decide (l[1].width = 8)) := by
  rw [isWant, List.getElem?_eq_getElem h]
  rfl
theorem lit_drop : (⟨#[100, 114, 111, 112]⟩ : ByteArray).toList = [100, 114, 111, 112] := by rw [toList_data]
theorem nm_drop_yes {s : ByteArray} (h : s = (⟨#[100, 114, 111, 112]⟩ : ByteArray)) : (s.toList == [100, 114, 111, 112]) = true := by rw [h, lit_drop]; rfl
theorem nm_drop_no {s : ByteArray} (h : ¬ s = (⟨#[100, 114, 111, 112]⟩ : ByteArray)) : (s.toList == [100, 114, 111, 112]) = false := beq_eq_false_iff_ne.2 fun e => h (toList_inj.1 (e.trans lit_drop.symm))
theorem want_drop (l : List FieldD) (h : 2 < l.length) : isWant l 2 = (decide (l[2].name = (⟨#[100, 114, 111, 112]⟩ : ByteArray)) && decide (l[2].width = 1)) := by
  rw [isWant, List.getElem?_eq_getElem h]
  rfl
theorem checkMetadata_any (p : ProgD) (w : World) (o : ProgOk w p) :
    Calls Tryz.prog 86 #[.agg (progCells p)] w fun e w' => e = outE (metaM p) ∧ Below w.heap.size w w' := by
  obtain ⟨W, hW, hw, HB, hp⟩ := box1 w (progCells p) 31
  have HW := hi_ hw
  have HOW := hi_ (o.below hw)
  have HR := hi_ (metaM_eq p)
  have HS := hi_ (fldM_at p.metadata.l)
  have HN : Hid (∀ f ∈ p.metadata.l, f.name.size ≤ maxLen) := hi_ HOW.out.mnames
  have HX := hi_ HOW.out.metadata
  have HNm := hi_ (fun w' (h : Below W.heap.size W w') (hl : p.metadata.l.length ≤ 100) => names_field p.metadata w' (HOW.out.metadata.below h (Nat.le_refl _)) hl)
  have HW0 := hi_ (want_in p.metadata.l)
  have HW1 := hi_ (want_out_ p.metadata.l)
  have HW2 := hi_ (want_drop p.metadata.l)
  clear o hw
  obtain ⟨⟨ml, mA, mc⟩, hmd⟩ : ∃ x, p.metadata = x := ⟨_, rfl⟩
  simp only [progCells, hmd] at hp hW ⊢
  rw [hmd] at HR HS HN HX HNm HW0 HW1 HW2
  simp only at HR HS HN HNm HW0 HW1 HW2
  clear hmd HOW
  have HB0 := hi_ HB
  go_enter Tryz.func86, Tryz.ntmps86
  go_upto_region 1 with fail
  rw [← hW]
  clear hW
  by_cases h12 : 12 < ml.length
  · replace HR := hi_ (HR.out.trans (if_pos h12))
    go_wp2_with fail
    refine (when_true _ _ _ (by first | rfl | (simp; omega))).mono ?_
    rintro e w' ⟨rfl, rfl⟩
    go_wp2_with fail
    refine (require_bad 12 2 0 0 _ rfl).mono ?_
    rintro e w' ⟨rfl, rfl⟩
    go_wp2
    exact ⟨rfl, by rw [HR.out]; rfl, below_step HW.out HB⟩
  replace HR := hi_ (HR.out.trans (if_neg h12))
  have hle : ml.length ≤ 12 := by omega
  clear h12
  go_wp2_with fail
  refine (when_false _ _ _ (by first | rfl | (simp; omega))).mono ?_
  rintro e w' ⟨rfl, rfl⟩
  go_wp2_with fail
  refine (require_ok _ _ _ _).mono ?_
  rintro e w' ⟨rfl, rfl⟩
  go_wp2_with fail
  refine (HNm.out _ HB (by omega)).mono ?_
  rintro e w1 ⟨A, c, rfl, hown, hb1⟩
  have HOwn := hi_ hown
  replace HB := below_step HB hb1
  have HB1 := hi_ HB
  clear hb1 hown HNm
  go_wp2
  clear HB
  go_loopw [3, 4, 19] (fun _ _ iv wr => ∃ k : Nat, k ≤ ml.length ∧ iv = .int .i64 k ∧ (∀ j, j < k → mAt ml j = none) ∧ Below w1.heap.size w1 wr) (fun _ _ i _ => ml.length - (intOf i).toNat)
  case atStart => exact ⟨0, Nat.zero_le _, rfl, fun j h => absurd h (Nat.not_lt_zero _), Below.refl _ _⟩
  case round =>
    obtain ⟨k, hk, rfl, hpre, HB⟩ := hrel
    have HPre := hi_ hpre
    clear hpre
    by_cases hlt : k < ml.length
    · obtain ⟨g, of, hA, d0, d1⟩ := FieldD.at (HX.out.below (below_step HB1.out HB) (Nat.le_refl _)) hlt
      have HE := hi_ (HS.out k hlt)
      have HNk := hi_ (HN.out _ (List.getElem_mem hlt))
      simp only at hA d0 d1
      subst hA
      clear HW0 HW1 HW2
      generalize ml[k] = y at *
      obtain ⟨yn, yw⟩ := y
      simp only at HE HNk d0 d1
      obtain ⟨gn, rfl, hg⟩ := OwnStrs.form HOwn.out (show 0 < (ml.map FieldD.name).length by rw [List.length_map]; omega)
      have HG := hi_ hg
      clear hg
      have hca := @World.cell?_alloc_some
      go_wp2_with fail
      refine (identifier_any yn _ HNk.out).mono ?_
      rintro e w' ⟨rfl, rfl⟩
      cases h1 : ident yn
      · have HE2 := hi_ (mAt_some (HE.out.trans (if_pos h1)))
        have HR2 := hi_ (HR.out.trans (show _ = some (⟨6, 2, k, 0⟩ : DiagD) by rw [firstE_some hlt HPre.out HE2.out]))
        go_wp2_with fail
        refine (when_true _ _ _ rfl).mono ?_
        rintro e w' ⟨rfl, rfl⟩
        go_wp2_with fail
        refine (require_bad 6 2 k 0 _ rfl).mono ?_
        rintro e w' ⟨rfl, rfl⟩
        go_wp2
        exact ⟨rfl, by rw [HR2.out]; rfl, below_step HW.out (below_step HB1.out (by first | exact HB | exact below_alloc HB _ | exact ba2 HB | exact ba3 HB))⟩
      have HF1 := hi_ (HE.out.trans (if_neg (by rw [h1]; simp)))
      clear h1 HE
      go_wp2_with fail
      refine (when_false _ _ _ rfl).mono ?_
      rintro e w' ⟨rfl, rfl⟩
      go_wp2_with fail
      refine (require_ok _ _ _ _).mono ?_
      rintro e w' ⟨rfl, rfl⟩
      go_wp2_with fail
      refine (widthInvalid_any _ _).mono ?_
      rintro e w' ⟨rfl, rfl⟩
      cases h2 : okW yw
      · have HE2 := hi_ (mAt_some (HF1.out.trans (if_pos h2)))
        have HR2 := hi_ (HR.out.trans (show _ = some (⟨10, 2, k, 0⟩ : DiagD) by rw [firstE_some hlt HPre.out HE2.out]))
        have h3 := okW_not.1 h2
        go_wp2_with fail
        refine (when_true _ _ _ (by simp; omega)).mono ?_
        rintro e w' ⟨rfl, rfl⟩
        go_wp2_with fail
        refine (require_bad 10 2 k 0 _ rfl).mono ?_
        rintro e w' ⟨rfl, rfl⟩
        go_wp2
        exact ⟨rfl, by rw [HR2.out]; rfl, below_step HW.out (below_step HB1.out (by first | exact HB | exact below_alloc HB _ | exact ba2 HB | exact ba3 HB))⟩
      have HF2 := hi_ (HF1.out.trans (if_neg (by rw [h2]; simp)))
      have h3 := okW_iff.1 h2
      clear HF1
      go_wp2_with fail
      refine (when_false _ _ _ (by simp; omega)).mono ?_
      rintro e w' ⟨rfl, rfl⟩
      go_wp2_with fail
      refine (require_ok _ _ _ _).mono ?_
      rintro e w' ⟨rfl, rfl⟩
      clear d0 d1 hca
      go_wp2_with fail
      refine (rep_at (ml.map FieldD.name) ml.length gn c k w1 _ (by simp) hlt (by omega) HG.out (by first | exact HB | exact below_alloc HB _ | exact ba2 HB | exact ba3 HB)).mono ?_
      rintro e w3 ⟨rfl, hbN⟩
      replace HB := below_step (by first | exact HB | exact below_alloc HB _ | exact ba2 HB | exact ba3 HB) hbN
      clear hbN
      cases hd : dupB (ml.map FieldD.name) k
      case true =>
        have HE2 := hi_ (mAt_some (HF2.out.trans (if_pos hd)))
        have HR2 := hi_ (HR.out.trans (show _ = some (⟨7, 2, k, 0⟩ : DiagD) by rw [firstE_some hlt HPre.out HE2.out]))
        go_wp2_with fail
        refine (when_true _ _ _ rfl).mono ?_
        rintro e w' ⟨rfl, rfl⟩
        go_wp2_with fail
        refine (require_bad 7 2 k 0 _ rfl).mono ?_
        rintro e w' ⟨rfl, rfl⟩
        go_wp2
        exact ⟨rfl, by rw [HR2.out]; rfl, below_step HW.out (below_step HB1.out HB)⟩
      have HE4 := hi_ (mAt_none (HF2.out.trans (if_neg (by rw [hd]; simp))))
      go_wp2_with fail
      refine (when_false _ _ _ rfl).mono ?_
      rintro e w' ⟨rfl, rfl⟩
      go_wp2_with fail
      refine (require_ok _ _ _ _).mono ?_
      rintro e w' ⟨rfl, rfl⟩
      go_wp2
      go_roundw
      case rel => exact ⟨k + 1, by omega, by go_num, firstE_step HPre.out HE4.out, HB⟩
      case measure => simp [intOf]; omega
    have e : k = ml.length := by omega
    have HR2 := hi_ (HR.out.trans (show _ = firstE 3 (wAt ml) by rw [firstE_none (by rw [← e]; exact HPre.out)]))
    have hkx : ¬ ((k : Int) < (ml.length : Int)) := by omega
    have HBb := hi_ (below_step HB1.out HB)
    clear HPre HB1 HOwn hlt e HB HR HS HN
    go_wp2
    go_loopw [5, 6, 47] (fun _ _ iv wr => ∃ k : Nat, k ≤ 3 ∧ iv = .int .i64 k ∧ (∀ j, j < k → wAt ml j = none) ∧ Below W.heap.size W wr) (fun _ _ i _ => 3 - (intOf i).toNat)
    case atStart => exact ⟨0, Nat.zero_le _, rfl, fun j h => absurd h (Nat.not_lt_zero _), HBb.out⟩
    case round =>
      clear hk hkx HBb
      obtain ⟨k, hk, rfl, hpre, HB⟩ := hrel
      have HPre := hi_ hpre
      clear hpre
      rcases (show k = 0 ∨ k = 1 ∨ k = 2 ∨ k = 3 by omega) with rfl | rfl | rfl | rfl
      case inr.inr.inr =>
        have HR3 := hi_ (HR2.out.trans (firstE_none HPre.out))
        go_wp2
        go_end0
        exact ⟨by rw [HR3.out]; rfl, below_step HW.out HB⟩
      case inl =>
        have hix := i95_0
        refine Exists.elim (box1 wr #[.string ⟨#[105, 110]⟩, .int .i64 8] 135) ?_
        rintro V ⟨hV, hv, hVV, hbx⟩
        have HBV := hi_ (below_step HB hv)
        have hp1 := hp V.drew (below_step HB hv).drew
        have b0 : V.drew.cell? ⟨wr.heap.size, 0, none⟩ = some (.string ⟨#[105, 110]⟩) := hbx V.drew hVV.drew 0 (show 0 < 2 by decide)
        have b1 : V.drew.cell? ⟨wr.heap.size, 1, none⟩ = some (.int .i64 8) := hbx V.drew hVV.drew 1 (show 1 < 2 by decide)
        by_cases hlt : 0 < ml.length
        case neg =>
          have HE2 := hi_ (wAt_some (want_out (l := ml) (i := 0) (by omega)))
          have HR3 := hi_ (HR2.out.trans (firstE_some (show 0 < 3 by decide) HPre.out HE2.out))
          have E1 : Hid ((ml.length : Int) ≤ 0) := hi_ (by omega)
          have E2 : Hid (ml.length ≤ 0) := hi_ (by omega)
          have E0 : Hid (ml = []) := hi_ (List.eq_nil_of_length_eq_zero (by omega))
          clear hlt
          clear hv hVV hbx HB
          go_wp2
          rw [← hV]
          clear hV hix
          refine wp_region_still_tail 16 mixed (by kernel_rfl) ?_
          simp only [List.take_succ_cons, List.take_zero, List.drop_succ_cons, List.drop_zero]
          change wpStill _ _ V.drew _ _ _
          iterate 6 still_step
          iterate 7 (refine wpStill_step (fun K hK => ?_); go_simp; (first | rw [if_pos E0.out] | rw [if_neg (show ¬ (0 : Int) < (ml.length : Int) by have := E2.out; omega)]); refine hK _ ?_; clear hK K)
          have e0 := E0.out
          have e1 := E1.out
          have e2 := E2.out
          still_step
          clear e0 e1 e2
          still_call (when_flip _ _ _)
          still_step
          refine wpStill_nil ?_
          change wpList _ _ _ _ _ V.drew
          go_wp2_with fail
          refine (require_bad 5 2 0 0 _ rfl).mono ?_
          rintro e w' ⟨rfl, rfl⟩
          go_wp2
          exact ⟨rfl, by rw [HR3.out]; rfl, below_step HW.out HBV.out.drew⟩
        obtain ⟨g, of, hA, d0, d1⟩ := FieldD.at (HX.out.below HBV.out.drew (Nat.le_refl _)) hlt
        have HE := hi_ (HW0.out hlt)
        have N2 : Hid (0 < ml.length) := hi_ hlt
        have N3 : Hid ((0 : Int) < (ml.length : Int)) := hi_ (by omega)
        have N0 : Hid (¬ ml = []) := hi_ (fun e => by rw [e] at hlt; exact absurd hlt (Nat.lt_irrefl _))
        simp only at hA
        simp only [Nat.zero_mul, Nat.add_zero] at d0 d1
        subst hA
        generalize ml[0]'hlt = y at *
        obtain ⟨yn, yw⟩ := y
        simp only at HE d0 d1
        clear HW0 HW1 HW2 hv hVV hbx HB hlt
        go_wp2
        rw [← hV]
        clear hV hix
        by_cases he : yn = (⟨#[105, 110]⟩ : ByteArray)
        · by_cases he2 : yw = 8
          · have HE2 := hi_ (wAt_none (HE.out.trans (by rw [decide_eq_true he, decide_eq_true he2]; rfl)))
            have he' := nm_in_yes he
            have he2' : (yw == 8) = true := beq_iff_eq.2 he2
            clear he he2
            refine wp_region_still_tail 16 mixed (by kernel_rfl) ?_
            simp only [List.take_succ_cons, List.take_zero, List.drop_succ_cons, List.drop_zero]
            change wpStill _ _ V.drew _ _ _
            iterate 6 still_step
            iterate 3 (refine wpStill_step (fun K hK => ?_); go_simp; (first | rw [if_neg N0.out] | rw [if_pos (show (0 : Int) < (ml.length : Int) by have := N2.out; omega)]); refine hK _ ?_; clear hK K)
            iterate 1 (refine wpStill_step (fun K hK => ?_); go_simp; (first | rw [if_neg N0.out] | rw [if_pos (show (0 : Int) < (ml.length : Int) by have := N2.out; omega)]); (first | rw [if_pos N2.out] | rw [if_pos N3.out]); go_simp; refine hK _ ?_; clear hK K)
            iterate 3 (refine wpStill_step (fun K hK => ?_); go_simp; (first | rw [if_neg N0.out] | rw [if_pos (show (0 : Int) < (ml.length : Int) by have := N2.out; omega)]); refine hK _ ?_; clear hK K)
            have n0 := N0.out
            have n2 := N2.out
            have n3 := N3.out
            have n4 : decide ((ml.length : Int) ≤ 0) = false := decide_eq_false (by have := N2.out; omega)
            still_step
            clear n0 n2 n3 n4
            still_call (when_flip _ _ _)
            still_step
            refine wpStill_nil ?_
            change wpList _ _ _ _ _ V.drew
            go_wp2_with fail
            refine (require_ok _ _ _ _).mono ?_
            rintro e w' ⟨rfl, rfl⟩
            go_wp2
            go_roundw
            case rel => exact ⟨1, by omega, by go_num, firstE_step HPre.out HE2.out, HBV.out.drew⟩
            case measure => simp [intOf]
          · have HE2 := hi_ (wAt_some (HE.out.trans (by rw [decide_eq_false he2]; simp)))
            have HR3 := hi_ (HR2.out.trans (firstE_some (show 0 < 3 by decide) HPre.out HE2.out))
            have he' := nm_in_yes he
            have he2' : (yw == 8) = false := beq_eq_false_iff_ne.2 he2
            clear he he2
            refine wp_region_still_tail 16 mixed (by kernel_rfl) ?_
            simp only [List.take_succ_cons, List.take_zero, List.drop_succ_cons, List.drop_zero]
            change wpStill _ _ V.drew _ _ _
            iterate 6 still_step
            iterate 3 (refine wpStill_step (fun K hK => ?_); go_simp; (first | rw [if_neg N0.out] | rw [if_pos (show (0 : Int) < (ml.length : Int) by have := N2.out; omega)]); refine hK _ ?_; clear hK K)
            iterate 1 (refine wpStill_step (fun K hK => ?_); go_simp; (first | rw [if_neg N0.out] | rw [if_pos (show (0 : Int) < (ml.length : Int) by have := N2.out; omega)]); (first | rw [if_pos N2.out] | rw [if_pos N3.out]); go_simp; refine hK _ ?_; clear hK K)
            iterate 3 (refine wpStill_step (fun K hK => ?_); go_simp; (first | rw [if_neg N0.out] | rw [if_pos (show (0 : Int) < (ml.length : Int) by have := N2.out; omega)]); refine hK _ ?_; clear hK K)
            have n0 := N0.out
            have n2 := N2.out
            have n3 := N3.out
            have n4 : decide ((ml.length : Int) ≤ 0) = false := decide_eq_false (by have := N2.out; omega)
            still_step
            clear n0 n2 n3 n4
            still_call (when_flip _ _ _)
            still_step
            refine wpStill_nil ?_
            change wpList _ _ _ _ _ V.drew
            go_wp2_with fail
            refine (require_bad 5 2 0 0 _ rfl).mono ?_
            rintro e w' ⟨rfl, rfl⟩
            go_wp2
            exact ⟨rfl, by rw [HR3.out]; rfl, below_step HW.out HBV.out.drew⟩
        · have HE2 := hi_ (wAt_some (HE.out.trans (by rw [decide_eq_false he]; simp)))
          have HR3 := hi_ (HR2.out.trans (firstE_some (show 0 < 3 by decide) HPre.out HE2.out))
          have he' := nm_in_no he
          clear he
          refine wp_region_still_tail 16 mixed (by kernel_rfl) ?_
          simp only [List.take_succ_cons, List.take_zero, List.drop_succ_cons, List.drop_zero]
          change wpStill _ _ V.drew _ _ _
          iterate 6 still_step
          iterate 3 (refine wpStill_step (fun K hK => ?_); go_simp; (first | rw [if_neg N0.out] | rw [if_pos (show (0 : Int) < (ml.length : Int) by have := N2.out; omega)]); refine hK _ ?_; clear hK K)
          iterate 1 (refine wpStill_step (fun K hK => ?_); go_simp; (first | rw [if_neg N0.out] | rw [if_pos (show (0 : Int) < (ml.length : Int) by have := N2.out; omega)]); (first | rw [if_pos N2.out] | rw [if_pos N3.out]); go_simp; refine hK _ ?_; clear hK K)
          iterate 3 (refine wpStill_step (fun K hK => ?_); go_simp; (first | rw [if_neg N0.out] | rw [if_pos (show (0 : Int) < (ml.length : Int) by have := N2.out; omega)]); refine hK _ ?_; clear hK K)
          have n0 := N0.out
          have n2 := N2.out
          have n3 := N3.out
          have n4 : decide ((ml.length : Int) ≤ 0) = false := decide_eq_false (by have := N2.out; omega)
          still_step
          clear n0 n2 n3 n4
          still_call (when_flip _ _ _)
          still_step
          refine wpStill_nil ?_
          change wpList _ _ _ _ _ V.drew
          go_wp2_with fail
          refine (require_bad 5 2 0 0 _ rfl).mono ?_
          rintro e w' ⟨rfl, rfl⟩
          go_wp2
          exact ⟨rfl, by rw [HR3.out]; rfl, below_step HW.out HBV.out.drew⟩
      case inr.inl =>
        have hix := i95_1
        refine Exists.elim (box1 wr #[.string ⟨#[111, 117, 116]⟩, .int .i64 8] 135) ?_
        rintro V ⟨hV, hv, hVV, hbx⟩
        have HBV := hi_ (below_step HB hv)
        have hp1 := hp V.drew (below_step HB hv).drew
        have b0 : V.drew.cell? ⟨wr.heap.size, 0, none⟩ = some (.string ⟨#[111, 117, 116]⟩) := hbx V.drew hVV.drew 0 (show 0 < 2 by decide)
        have b1 : V.drew.cell? ⟨wr.heap.size, 1, none⟩ = some (.int .i64 8) := hbx V.drew hVV.drew 1 (show 1 < 2 by decide)
        by_cases hlt : 1 < ml.length
        case neg =>
          have HE2 := hi_ (wAt_some (want_out (l := ml) (i := 1) (by omega)))
          have HR3 := hi_ (HR2.out.trans (firstE_some (show 1 < 3 by decide) HPre.out HE2.out))
          have E1 : Hid ((ml.length : Int) ≤ 1) := hi_ (by omega)
          have E2 : Hid (ml.length ≤ 1) := hi_ (by omega)
          have E0 : Hid (ml.length ≤ 1) := E2
          clear hlt
          clear hv hVV hbx HB
          go_wp2
          rw [← hV]
          clear hV hix
          refine wp_region_still_tail 16 mixed (by kernel_rfl) ?_
          simp only [List.take_succ_cons, List.take_zero, List.drop_succ_cons, List.drop_zero]
          change wpStill _ _ V.drew _ _ _
          iterate 6 still_step
          iterate 7 (refine wpStill_step (fun K hK => ?_); go_simp; (first | rw [if_pos E0.out] | rw [if_neg (show ¬ (1 : Int) < (ml.length : Int) by have := E2.out; omega)]); refine hK _ ?_; clear hK K)
          have e0 := E0.out
          have e1 := E1.out
          have e2 := E2.out
          still_step
          clear e0 e1 e2
          still_call (when_flip _ _ _)
          still_step
          refine wpStill_nil ?_
          change wpList _ _ _ _ _ V.drew
          go_wp2_with fail
          refine (require_bad 5 2 1 0 _ rfl).mono ?_
          rintro e w' ⟨rfl, rfl⟩
          go_wp2
          exact ⟨rfl, by rw [HR3.out]; rfl, below_step HW.out HBV.out.drew⟩
        obtain ⟨g, of, hA, d0, d1⟩ := FieldD.at (HX.out.below HBV.out.drew (Nat.le_refl _)) hlt
        have HE := hi_ (HW1.out hlt)
        have N2 : Hid (1 < ml.length) := hi_ hlt
        have N3 : Hid ((1 : Int) < (ml.length : Int)) := hi_ (by omega)
        have N0 : Hid (¬ ml.length ≤ 1) := hi_ (by omega)
        simp only at hA
        simp only [Nat.one_mul] at d0 d1
        subst hA
        generalize ml[1]'hlt = y at *
        obtain ⟨yn, yw⟩ := y
        simp only at HE d0 d1
        clear HW0 HW1 HW2 hv hVV hbx HB hlt
        go_wp2
        rw [← hV]
        clear hV hix
        by_cases he : yn = (⟨#[111, 117, 116]⟩ : ByteArray)
        · by_cases he2 : yw = 8
          · have HE2 := hi_ (wAt_none (HE.out.trans (by rw [decide_eq_true he, decide_eq_true he2]; rfl)))
            have he' := nm_out_yes he
            have he2' : (yw == 8) = true := beq_iff_eq.2 he2
            clear he he2
            refine wp_region_still_tail 16 mixed (by kernel_rfl) ?_
            simp only [List.take_succ_cons, List.take_zero, List.drop_succ_cons, List.drop_zero]
            change wpStill _ _ V.drew _ _ _
            iterate 6 still_step
            iterate 3 (refine wpStill_step (fun K hK => ?_); go_simp; (first | rw [if_neg N0.out] | rw [if_pos (show (1 : Int) < (ml.length : Int) by have := N2.out; omega)]); refine hK _ ?_; clear hK K)
            iterate 1 (refine wpStill_step (fun K hK => ?_); go_simp; (first | rw [if_neg N0.out] | rw [if_pos (show (1 : Int) < (ml.length : Int) by have := N2.out; omega)]); (first | rw [if_pos N2.out] | rw [if_pos N3.out]); go_simp; refine hK _ ?_; clear hK K)
            iterate 3 (refine wpStill_step (fun K hK => ?_); go_simp; (first | rw [if_neg N0.out] | rw [if_pos (show (1 : Int) < (ml.length : Int) by have := N2.out; omega)]); refine hK _ ?_; clear hK K)
            have n0 := N0.out
            have n2 := N2.out
            have n3 := N3.out
            have n4 : decide ((ml.length : Int) ≤ 1) = false := decide_eq_false (by have := N2.out; omega)
            still_step
            clear n0 n2 n3 n4
            still_call (when_flip _ _ _)
            still_step
            refine wpStill_nil ?_
            change wpList _ _ _ _ _ V.drew
            go_wp2_with fail
            refine (require_ok _ _ _ _).mono ?_
            rintro e w' ⟨rfl, rfl⟩
            go_wp2
            go_roundw
            case rel => exact ⟨2, by omega, by go_num, firstE_step HPre.out HE2.out, HBV.out.drew⟩
            case measure => simp [intOf]
          · have HE2 := hi_ (wAt_some (HE.out.trans (by rw [decide_eq_false he2]; simp)))
            have HR3 := hi_ (HR2.out.trans (firstE_some (show 1 < 3 by decide) HPre.out HE2.out))
            have he' := nm_out_yes he
            have he2' : (yw == 8) = false := beq_eq_false_iff_ne.2 he2
            clear he he2
            refine wp_region_still_tail 16 mixed (by kernel_rfl) ?_
            simp only [List.take_succ_cons, List.take_zero, List.drop_succ_cons, List.drop_zero]
            change wpStill _ _ V.drew _ _ _
            iterate 6 still_step
            iterate 3 (refine wpStill_step (fun K hK => ?_); go_simp; (first | rw [if_neg N0.out] | rw [if_pos (show (1 : Int) < (ml.length : Int) by have := N2.out; omega)]); refine hK _ ?_; clear hK K)
            iterate 1 (refine wpStill_step (fun K hK => ?_); go_simp; (first | rw [if_neg N0.out] | rw [if_pos (show (1 : Int) < (ml.length : Int) by have := N2.out; omega)]); (first | rw [if_pos N2.out] | rw [if_pos N3.out]); go_simp; refine hK _ ?_; clear hK K)
            iterate 3 (refine wpStill_step (fun K hK => ?_); go_simp; (first | rw [if_neg N0.out] | rw [if_pos (show (1 : Int) < (ml.length : Int) by have := N2.out; omega)]); refine hK _ ?_; clear hK K)
            have n0 := N0.out
            have n2 := N2.out
            have n3 := N3.out
            have n4 : decide ((ml.length : Int) ≤ 1) = false := decide_eq_false (by have := N2.out; omega)
            still_step
            clear n0 n2 n3 n4
            still_call (when_flip _ _ _)
            still_step
            refine wpStill_nil ?_
            change wpList _ _ _ _ _ V.drew
            go_wp2_with fail
            refine (require_bad 5 2 1 0 _ rfl).mono ?_
            rintro e w' ⟨rfl, rfl⟩
            go_wp2
            exact ⟨rfl, by rw [HR3.out]; rfl, below_step HW.out HBV.out.drew⟩
        · have HE2 := hi_ (wAt_some (HE.out.trans (by rw [decide_eq_false he]; simp)))
          have HR3 := hi_ (HR2.out.trans (firstE_some (show 1 < 3 by decide) HPre.out HE2.out))
          have he' := nm_out_no he
          clear he
          refine wp_region_still_tail 16 mixed (by kernel_rfl) ?_
          simp only [List.take_succ_cons, List.take_zero, List.drop_succ_cons, List.drop_zero]
          change wpStill _ _ V.drew _ _ _
          iterate 6 still_step
          iterate 3 (refine wpStill_step (fun K hK => ?_); go_simp; (first | rw [if_neg N0.out] | rw [if_pos (show (1 : Int) < (ml.length : Int) by have := N2.out; omega)]); refine hK _ ?_; clear hK K)
          iterate 1 (refine wpStill_step (fun K hK => ?_); go_simp; (first | rw [if_neg N0.out] | rw [if_pos (show (1 : Int) < (ml.length : Int) by have := N2.out; omega)]); (first | rw [if_pos N2.out] | rw [if_pos N3.out]); go_simp; refine hK _ ?_; clear hK K)
          iterate 3 (refine wpStill_step (fun K hK => ?_); go_simp; (first | rw [if_neg N0.out] | rw [if_pos (show (1 : Int) < (ml.length : Int) by have := N2.out; omega)]); refine hK _ ?_; clear hK K)
          have n0 := N0.out
          have n2 := N2.out
          have n3 := N3.out
          have n4 : decide ((ml.length : Int) ≤ 1) = false := decide_eq_false (by have := N2.out; omega)
          still_step
          clear n0 n2 n3 n4
          still_call (when_flip _ _ _)
          still_step
          refine wpStill_nil ?_
          change wpList _ _ _ _ _ V.drew
          go_wp2_with fail
          refine (require_bad 5 2 1 0 _ rfl).mono ?_
          rintro e w' ⟨rfl, rfl⟩
          go_wp2
          exact ⟨rfl, by rw [HR3.out]; rfl, below_step HW.out HBV.out.drew⟩
      case inr.inr.inl =>
        have hix := i95_2
        refine Exists.elim (box1 wr #[.string ⟨#[100, 114, 111, 112]⟩, .int .i64 1] 135) ?_
        rintro V ⟨hV, hv, hVV, hbx⟩
        have HBV := hi_ (below_step HB hv)
        have hp1 := hp V.drew (below_step HB hv).drew
        have b0 : V.drew.cell? ⟨wr.heap.size, 0, none⟩ = some (.string ⟨#[100, 114, 111, 112]⟩) := hbx V.drew hVV.drew 0 (show 0 < 2 by decide)
        have b1 : V.drew.cell? ⟨wr.heap.size, 1, none⟩ = some (.int .i64 1) := hbx V.drew hVV.drew 1 (show 1 < 2 by decide)
        by_cases hlt : 2 < ml.length
        case neg =>
          have HE2 := hi_ (wAt_some (want_out (l := ml) (i := 2) (by omega)))
          have HR3 := hi_ (HR2.out.trans (firstE_some (show 2 < 3 by decide) HPre.out HE2.out))
          have E1 : Hid ((ml.length : Int) ≤ 2) := hi_ (by omega)
          have E2 : Hid (ml.length ≤ 2) := hi_ (by omega)
          have E0 : Hid (ml.length ≤ 2) := E2
          clear hlt
          clear hv hVV hbx HB
          go_wp2
          rw [← hV]
          clear hV hix
          refine wp_region_still_tail 16 mixed (by kernel_rfl) ?_
          simp only [List.take_succ_cons, List.take_zero, List.drop_succ_cons, List.drop_zero]
          change wpStill _ _ V.drew _ _ _
          iterate 6 still_step
          iterate 7 (refine wpStill_step (fun K hK => ?_); go_simp; (first | rw [if_pos E0.out] | rw [if_neg (show ¬ (2 : Int) < (ml.length : Int) by have := E2.out; omega)]); refine hK _ ?_; clear hK K)
          have e0 := E0.out
          have e1 := E1.out
          have e2 := E2.out
          still_step
          clear e0 e1 e2
          still_call (when_flip _ _ _)
          still_step
          refine wpStill_nil ?_
          change wpList _ _ _ _ _ V.drew
          go_wp2_with fail
          refine (require_bad 5 2 2 0 _ rfl).mono ?_
          rintro e w' ⟨rfl, rfl⟩
          go_wp2
          exact ⟨rfl, by rw [HR3.out]; rfl, below_step HW.out HBV.out.drew⟩
        obtain ⟨g, of, hA, d0, d1⟩ := FieldD.at (HX.out.below HBV.out.drew (Nat.le_refl _)) hlt
        have HE := hi_ (HW2.out hlt)
        have N2 : Hid (2 < ml.length) := hi_ hlt
        have N3 : Hid ((2 : Int) < (ml.length : Int)) := hi_ (by omega)
        have N0 : Hid (¬ ml.length ≤ 2) := hi_ (by omega)
        simp only at hA
        simp only [Nat.reduceMul] at d0 d1
        subst hA
        generalize ml[2]'hlt = y at *
        obtain ⟨yn, yw⟩ := y
        simp only at HE d0 d1
        clear HW0 HW1 HW2 hv hVV hbx HB hlt
        go_wp2
        rw [← hV]
        clear hV hix
        by_cases he : yn = (⟨#[100, 114, 111, 112]⟩ : ByteArray)
        · by_cases he2 : yw = 1
          · have HE2 := hi_ (wAt_none (HE.out.trans (by rw [decide_eq_true he, decide_eq_true he2]; rfl)))
            have he' := nm_drop_yes he
            have he2' : (yw == 1) = true := beq_iff_eq.2 he2
            clear he he2
            refine wp_region_still_tail 16 mixed (by kernel_rfl) ?_
            simp only [List.take_succ_cons, List.take_zero, List.drop_succ_cons, List.drop_zero]
            change wpStill _ _ V.drew _ _ _
            iterate 6 still_step
            iterate 3 (refine wpStill_step (fun K hK => ?_); go_simp; (first | rw [if_neg N0.out] | rw [if_pos (show (2 : Int) < (ml.length : Int) by have := N2.out; omega)]); refine hK _ ?_; clear hK K)
            iterate 1 (refine wpStill_step (fun K hK => ?_); go_simp; (first | rw [if_neg N0.out] | rw [if_pos (show (2 : Int) < (ml.length : Int) by have := N2.out; omega)]); (first | rw [if_pos N2.out] | rw [if_pos N3.out]); go_simp; refine hK _ ?_; clear hK K)
            iterate 3 (refine wpStill_step (fun K hK => ?_); go_simp; (first | rw [if_neg N0.out] | rw [if_pos (show (2 : Int) < (ml.length : Int) by have := N2.out; omega)]); refine hK _ ?_; clear hK K)
            have n0 := N0.out
            have n2 := N2.out
            have n3 := N3.out
            have n4 : decide ((ml.length : Int) ≤ 2) = false := decide_eq_false (by have := N2.out; omega)
            still_step
            clear n0 n2 n3 n4
            still_call (when_flip _ _ _)
            still_step
            refine wpStill_nil ?_
            change wpList _ _ _ _ _ V.drew
            go_wp2_with fail
            refine (require_ok _ _ _ _).mono ?_
            rintro e w' ⟨rfl, rfl⟩
            go_wp2
            go_roundw
            case rel => exact ⟨3, by omega, by go_num, firstE_step HPre.out HE2.out, HBV.out.drew⟩
            case measure => simp [intOf]
          · have HE2 := hi_ (wAt_some (HE.out.trans (by rw [decide_eq_false he2]; simp)))
            have HR3 := hi_ (HR2.out.trans (firstE_some (show 2 < 3 by decide) HPre.out HE2.out))
            have he' := nm_drop_yes he
            have he2' : (yw == 1) = false := beq_eq_false_iff_ne.2 he2
            clear he he2
            refine wp_region_still_tail 16 mixed (by kernel_rfl) ?_
            simp only [List.take_succ_cons, List.take_zero, List.drop_succ_cons, List.drop_zero]
            change wpStill _ _ V.drew _ _ _
            iterate 6 still_step
            iterate 3 (refine wpStill_step (fun K hK => ?_); go_simp; (first | rw [if_neg N0.out] | rw [if_pos (show (2 : Int) < (ml.length : Int) by have := N2.out; omega)]); refine hK _ ?_; clear hK K)
            iterate 1 (refine wpStill_step (fun K hK => ?_); go_simp; (first | rw [if_neg N0.out] | rw [if_pos (show (2 : Int) < (ml.length : Int) by have := N2.out; omega)]); (first | rw [if_pos N2.out] | rw [if_pos N3.out]); go_simp; refine hK _ ?_; clear hK K)
            iterate 3 (refine wpStill_step (fun K hK => ?_); go_simp; (first | rw [if_neg N0.out] | rw [if_pos (show (2 : Int) < (ml.length : Int) by have := N2.out; omega)]); refine hK _ ?_; clear hK K)
            have n0 := N0.out
            have n2 := N2.out
            have n3 := N3.out
            have n4 : decide ((ml.length : Int) ≤ 2) = false := decide_eq_false (by have := N2.out; omega)
            still_step
            clear n0 n2 n3 n4
            still_call (when_flip _ _ _)
            still_step
            refine wpStill_nil ?_
            change wpList _ _ _ _ _ V.drew
            go_wp2_with fail
            refine (require_bad 5 2 2 0 _ rfl).mono ?_
            rintro e w' ⟨rfl, rfl⟩
            go_wp2
            exact ⟨rfl, by rw [HR3.out]; rfl, below_step HW.out HBV.out.drew⟩
        · have HE2 := hi_ (wAt_some (HE.out.trans (by rw [decide_eq_false he]; simp)))
          have HR3 := hi_ (HR2.out.trans (firstE_some (show 2 < 3 by decide) HPre.out HE2.out))
          have he' := nm_drop_no he
          clear he
          refine wp_region_still_tail 16 mixed (by kernel_rfl) ?_
          simp only [List.take_succ_cons, List.take_zero, List.drop_succ_cons, List.drop_zero]
          change wpStill _ _ V.drew _ _ _
          iterate 6 still_step
          iterate 3 (refine wpStill_step (fun K hK => ?_); go_simp; (first | rw [if_neg N0.out] | rw [if_pos (show (2 : Int) < (ml.length : Int) by have := N2.out; omega)]); refine hK _ ?_; clear hK K)
          iterate 1 (refine wpStill_step (fun K hK => ?_); go_simp; (first | rw [if_neg N0.out] | rw [if_pos (show (2 : Int) < (ml.length : Int) by have := N2.out; omega)]); (first | rw [if_pos N2.out] | rw [if_pos N3.out]); go_simp; refine hK _ ?_; clear hK K)
          iterate 3 (refine wpStill_step (fun K hK => ?_); go_simp; (first | rw [if_neg N0.out] | rw [if_pos (show (2 : Int) < (ml.length : Int) by have := N2.out; omega)]); refine hK _ ?_; clear hK K)
          have n0 := N0.out
          have n2 := N2.out
          have n3 := N3.out
          have n4 : decide ((ml.length : Int) ≤ 2) = false := decide_eq_false (by have := N2.out; omega)
          still_step
          clear n0 n2 n3 n4
          still_call (when_flip _ _ _)
          still_step
          refine wpStill_nil ?_
          change wpList _ _ _ _ _ V.drew
          go_wp2_with fail
          refine (require_bad 5 2 2 0 _ rfl).mono ?_
          rintro e w' ⟨rfl, rfl⟩
          go_wp2
          exact ⟨rfl, by rw [HR3.out]; rfl, below_step HW.out HBV.out.drew⟩
theorem catch_none (v : Value) (w : World) :
    CallsD Tryz.prog 83 #[v] .returning w fun e u' w' => e = .returned (.tuple #[]) ∧ u' = .returning ∧ w' = w := by
  refine callsD_of_wpS Tryz.func83 rfl fun c₀ cs hu => ?_
  apply wpS_seq
  apply wpS_region
  simp [wpOpsS, go_sem, recoverD, hu, Tryz.ntmps83, Exit.thenS]
  apply wpS_seq
  apply wpS_seq
  apply wpS_region
  simp [wpOpsS, go_sem, Exit.thenS]
  refine wpS_cond (t := true) (by simp [Act.eval]) ?_
  simp only [if_true]
  refine wpS_of_wp (wp_ret ?_)
  cases c₀
  simp_all [Exit.thenS, bodyPostS, results, Tryz.results83]
theorem fail_is (c pt it sb : Int) (w : World) : (Instr.typeAssert (.iface 137 (.agg #[.int .i64 c, .int .i64 pt, .int .i64 it, .int .i64 sb])) 20 137 true).run Tryz.prog w = .ok (.tuple #[.agg #[.int .i64 c, .int .i64 pt, .int .i64 it, .int .i64 sb], .bool true]) w := by kernel_rfl
theorem catch_some (c pt it sb : Int) (g : Nat) (t : TypeId) (x0 x1 x2 x3 : Int) (w : World) (hb : Blk w g t #[.int .i64 x0, .int .i64 x1, .int .i64 x2, .int .i64 x3]) :
    CallsD Tryz.prog 83 #[.pointer (some ⟨g, 0, none⟩)] (.panicking ({ v := .iface 137 (.agg #[.int .i64 c, .int .i64 pt, .int .i64 it, .int .i64 sb]), recovered := false } :: [])) w fun e u' w' =>
      e = .returned (.tuple #[]) ∧ u' = .panicking ({ v := .iface 137 (.agg #[.int .i64 c, .int .i64 pt, .int .i64 it, .int .i64 sb]), recovered := true } :: []) ∧ w' = ((((w.setCell ⟨g, 0, none⟩ (.int .i64 c)).setCell ⟨g, 1, none⟩ (.int .i64 pt)).setCell ⟨g, 2, none⟩ (.int .i64 it)).setCell ⟨g, 3, none⟩ (.int .i64 sb)).alloc (.cells #[.int .i64 c, .int .i64 pt, .int .i64 it, .int .i64 sb] 137) := by
  have h0 : w.cell? ⟨g, 0, none⟩ = some (.int .i64 x0) := hb.cell 0
  have h1 : w.cell? ⟨g, 1, none⟩ = some (.int .i64 x1) := hb.cell 1
  have h2 : w.cell? ⟨g, 2, none⟩ = some (.int .i64 x2) := hb.cell 2
  have h3 : w.cell? ⟨g, 3, none⟩ = some (.int .i64 x3) := hb.cell 3
  have f0 : w.frozen? ⟨g, 0, none⟩ = false := hb.frozen 0
  have f1 : w.frozen? ⟨g, 1, none⟩ = false := hb.frozen 1
  have f2 : w.frozen? ⟨g, 2, none⟩ = false := hb.frozen 2
  have f3 : w.frozen? ⟨g, 3, none⟩ = false := hb.frozen 3
  have hl := hb.lt
  have hta := fail_is
  have hca := @World.cell?_alloc_some
  have hfl := @World.frozen?_alloc_old
  refine callsD_of_wpS Tryz.func83 rfl fun c₀ cs hu => ?_
  apply wpS_seq
  apply wpS_region
  simp [wpOpsS, go_sem, recoverD, hu, Tryz.ntmps83, Exit.thenS]
  refine wpS_of_wp ?_
  change Code.wp _ _ _ (⟨#[.pointer (some ⟨g, 0, none⟩), .iface 137 (.agg #[.int .i64 c, .int .i64 pt, .int .i64 it, .int .i64 sb]), undef, undef, .iface 137 (.agg #[.int .i64 c, .int .i64 pt, .int .i64 it, .int .i64 sb]), undef, undef, undef, undef, undef, undef, undef, undef, undef, undef, undef], []⟩ : Act) w
  go_wp2
  clear h0 h1 h2 h3 f0 f1 f2 f3 hl hta hca hfl hb
  cases c₀
  simp_all [bodyPostS, results, Tryz.results83]
def diagM (p : ProgD) : DiagD := (checkM p).getD noDiag
theorem checkM_eq (p : ProgD) : checkM p = orE (limM p) (orE (hdrsM p) (orE (metaM p) (orE (objsM p) (flowM p)))) := by
  unfold checkM objsM
  cases limM p <;> cases hdrsM p <;> cases metaM p <;> cases regsM p <;> cases actsM p <;> cases tabsM p <;> rfl
theorem check_leaves (g : Nat) (w0 w : World) (tmps : Array Value) (o : Option DiagD) (m : FrameMode) (hg : w0.heap.size ≤ g) (hb : Below w0.heap.size w0 w) (hB : Blk w g 44 #[.int .i64 0, .int .i64 0, .int .i64 0, .int .i64 0])
    (ht : (tmps[2]?).getD undef = .pointer (some ⟨g, 0, none⟩)) (hm : (o = none ∧ m = .returning) ∨ ∃ d, o = some d ∧ m = .panicking [{ v := .iface 137 d.val, recovered := false }]) :
    Leaves Tryz.prog Tryz.f37 tmps (fun e w' => e = .returned (o.getD noDiag).val ∧ Below w0.heap.size w0 w') [{ target := .fn (.func 83) #[.pointer (some ⟨g, 0, none⟩)], args := #[] }] m w := by
  rcases hm with ⟨rfl, rfl⟩ | ⟨d, rfl, rfl⟩
  · have h0 : w.cell? ⟨g, 0, none⟩ = some (.int .i64 0) := hB.cell 0
    have h1 : w.cell? ⟨g, 1, none⟩ = some (.int .i64 0) := hB.cell 1
    have h2 : w.cell? ⟨g, 2, none⟩ = some (.int .i64 0) := hB.cell 2
    have h3 : w.cell? ⟨g, 3, none⟩ = some (.int .i64 0) := hB.cell 3
    refine leaves_cons (f := 83) (args := #[.pointer (some ⟨g, 0, none⟩)]) (by simp) (by simp [go_sem]) ?_
    refine (catch_none _ _).mono ?_
    rintro e u' w'' ⟨rfl, rfl, rfl⟩
    simp [Leaves, settle, results, Tryz.results37, go_sem, ht, h0, h1, h2, h3, noDiag, DiagD.val]
    exact hb
  · obtain ⟨dc, dp, di, ds⟩ := d
    refine leaves_cons (f := 83) (args := #[.pointer (some ⟨g, 0, none⟩)]) (by simp) (by simp [go_sem]) ?_
    refine (catch_some dc dp di ds g _ 0 0 0 0 w hB).mono ?_
    rintro e u' w'' ⟨rfl, rfl, rfl⟩
    have hB' := (((((hB.set_ 0 (.int .i64 dc)).set_ 1 (.int .i64 dp)).set_ 2 (.int .i64 di)).set_ 3 (.int .i64 ds)).alloc (.cells #[.int .i64 dc, .int .i64 dp, .int .i64 di, .int .i64 ds] 137))
    have e0 : Below w0.heap.size w0 (w.setCell ⟨g, 0, none⟩ (.int .i64 dc)) := hb.setCell hg _
    have e1 : Below w0.heap.size w0 ((w.setCell ⟨g, 0, none⟩ (.int .i64 dc)).setCell ⟨g, 1, none⟩ (.int .i64 dp)) := e0.setCell hg _
    have e2 : Below w0.heap.size w0 (((w.setCell ⟨g, 0, none⟩ (.int .i64 dc)).setCell ⟨g, 1, none⟩ (.int .i64 dp)).setCell ⟨g, 2, none⟩ (.int .i64 di)) := e1.setCell hg _
    have e3 : Below w0.heap.size w0 ((((w.setCell ⟨g, 0, none⟩ (.int .i64 dc)).setCell ⟨g, 1, none⟩ (.int .i64 dp)).setCell ⟨g, 2, none⟩ (.int .i64 di)).setCell ⟨g, 3, none⟩ (.int .i64 ds)) := e2.setCell hg _
    have hb' := below_alloc e3 (.cells #[.int .i64 dc, .int .i64 dp, .int .i64 di, .int .i64 ds] 137)
    generalize ((((w.setCell ⟨g, 0, none⟩ (.int .i64 dc)).setCell ⟨g, 1, none⟩ (.int .i64 dp)).setCell ⟨g, 2, none⟩ (.int .i64 di)).setCell ⟨g, 3, none⟩ (.int .i64 ds)).alloc (.cells #[.int .i64 dc, .int .i64 dp, .int .i64 di, .int .i64 ds] 137) = w9 at *
    have h0 : w9.cell? ⟨g, 0, none⟩ = some (.int .i64 dc) := hB'.cell 0
    have h1 : w9.cell? ⟨g, 1, none⟩ = some (.int .i64 dp) := hB'.cell 1
    have h2 : w9.cell? ⟨g, 2, none⟩ = some (.int .i64 di) := hB'.cell 2
    have h3 : w9.cell? ⟨g, 3, none⟩ = some (.int .i64 ds) := hB'.cell 3
    simp [Leaves, settle, results, Tryz.results37, go_sem, ht, h0, h1, h2, h3, DiagD.val]
    exact hb'
theorem lim_bounds {p : ProgD} (h : limM p = none) : p.headers.l.length ≤ 8 ∧ p.registers.l.length ≤ 4 ∧ p.actions.l.length ≤ 16 ∧ p.tables.l.length ≤ 12 := by
  unfold limM at h
  split at h
  · cases h
  split at h
  · cases h
  split at h
  · cases h
  split at h
  · cases h
  split at h
  · cases h
  exact ⟨by omega, by omega, by omega, by omega⟩
theorem check_any (p : ProgD) (w : World) (o : ProgOk w p) (hc : ProgCap p) (hN : (presM p.control.l).length ≤ 90000) :
    Calls Tryz.prog 37 #[.agg (progCells p)] w fun e w' => e = .returned (diagM p).val ∧ Below w.heap.size w w' := by
  have hmf : ∀ (fn : Fn) (first cap : Array Value) (w : World), (Instr.makeFunc fn first cap).run Tryz.prog w = .ok (.func fn first cap) w := fun _ _ _ _ => rfl
  have HO := hi_ o
  have HC := hi_ hc
  have HN := hi_ hN
  have HR := hi_ (checkM_eq p)
  obtain ⟨W, hW, hw, HB, hp⟩ := box2 w (progCells p) 31 #[.int .i64 0, .int .i64 0, .int .i64 0, .int .i64 0] 44
  have HW := hi_ hw
  have hbD : Blk W (w.heap.size + 1) 44 #[.int .i64 0, .int .i64 0, .int .i64 0, .int .i64 0] := by rw [hW]; exact (by simpa using Blk.new (w.alloc (.cells (progCells p) 31)) 44 #[.int .i64 0, .int .i64 0, .int .i64 0, .int .i64 0])
  have HD := hi_ hbD
  clear o hc hN hw hbD
  go_enter_defers Tryz.func37, Tryz.ntmps37
  go_upto_region 1 with fail
  rw [← hW]
  clear hW
  go_wp2_with fail
  refine (checkLimits_any p _ HO.out.name).mono ?_
  rintro e w1 ⟨rfl, hbN⟩
  replace HB := below_step (by first | exact HB | exact below_alloc HB _ | exact ba2 HB | exact ba3 HB) hbN
  clear hbN
  rcases h1 : limM p with _ | d
  case some =>
    have HM : Hid (checkM p = some d) := hi_ (by rw [HR.out, h1]; rfl)
    simp only [outE]
    go_wp2
    rw [diagM, HM.out]
    exact check_leaves (w.heap.size + 1) w _ _ (some d) _ (Nat.le_succ _) (below_step HW.out HB) (HD.out.below HB HD.out.lt) rfl (.inr ⟨d, rfl, rfl⟩)
  replace HR := hi_ (HR.out.trans (or2 h1))
  have HLm := hi_ (lim_bounds h1)
  simp only [outE]
  go_wp2_with fail
  refine (checkHeaders_any p _ (HO.out.below (below_step HW.out (by first | exact HB | exact below_alloc HB _ | exact ba2 HB | exact ba3 HB))) (by have := HLm.out.1; omega) HC.out.fields).mono ?_
  rintro e w2 ⟨rfl, hbN⟩
  replace HB := below_step (by first | exact HB | exact below_alloc HB _ | exact ba2 HB | exact ba3 HB) hbN
  clear hbN
  rcases h2 : hdrsM p with _ | d
  case some =>
    have HM : Hid (checkM p = some d) := hi_ (by rw [HR.out, h2]; rfl)
    simp only [outE]
    go_wp2
    rw [diagM, HM.out]
    exact check_leaves (w.heap.size + 1) w _ _ (some d) _ (Nat.le_succ _) (below_step HW.out HB) (HD.out.below HB HD.out.lt) rfl (.inr ⟨d, rfl, rfl⟩)
  replace HR := hi_ (HR.out.trans (or2 h2))
  simp only [outE]
  go_wp2_with fail
  refine (checkMetadata_any p _ (HO.out.below (below_step HW.out (by first | exact HB | exact below_alloc HB _ | exact ba2 HB | exact ba3 HB)))).mono ?_
  rintro e w3 ⟨rfl, hbN⟩
  replace HB := below_step (by first | exact HB | exact below_alloc HB _ | exact ba2 HB | exact ba3 HB) hbN
  clear hbN
  rcases h3 : metaM p with _ | d
  case some =>
    have HM : Hid (checkM p = some d) := hi_ (by rw [HR.out, h3]; rfl)
    simp only [outE]
    go_wp2
    rw [diagM, HM.out]
    exact check_leaves (w.heap.size + 1) w _ _ (some d) _ (Nat.le_succ _) (below_step HW.out HB) (HD.out.below HB HD.out.lt) rfl (.inr ⟨d, rfl, rfl⟩)
  replace HR := hi_ (HR.out.trans (or2 h3))
  simp only [outE]
  go_wp2_with fail
  refine (checkObjects_any p _ (HO.out.below (below_step HW.out (by first | exact HB | exact below_alloc HB _ | exact ba2 HB | exact ba3 HB))) (by have := HLm.out.2.1; omega) (by have := HLm.out.2.2.1; omega) (by have := HLm.out.2.2.2; omega) HC.out.params HC.out.dflt).mono ?_
  rintro e w4 ⟨rfl, hbN⟩
  replace HB := below_step (by first | exact HB | exact below_alloc HB _ | exact ba2 HB | exact ba3 HB) hbN
  clear hbN
  rcases h4 : objsM p with _ | d
  case some =>
    have HM : Hid (checkM p = some d) := hi_ (by rw [HR.out, h4]; rfl)
    simp only [outE]
    go_wp2
    rw [diagM, HM.out]
    exact check_leaves (w.heap.size + 1) w _ _ (some d) _ (Nat.le_succ _) (below_step HW.out HB) (HD.out.below HB HD.out.lt) rfl (.inr ⟨d, rfl, rfl⟩)
  replace HR := hi_ (HR.out.trans (or2 h4))
  simp only [outE]
  go_wp2_with fail
  refine (checkFlow_any p _ (HO.out.below (below_step HW.out (by first | exact HB | exact below_alloc HB _ | exact ba2 HB | exact ba3 HB))) HC.out HN.out).mono ?_
  rintro e w5 ⟨rfl, hbN⟩
  replace HB := below_step (by first | exact HB | exact below_alloc HB _ | exact ba2 HB | exact ba3 HB) hbN
  clear hbN
  rcases h5 : flowM p with _ | d
  case some =>
    have HM : Hid (checkM p = some d) := hi_ (by rw [HR.out, h5])
    simp only [outE]
    go_wp2
    rw [diagM, HM.out]
    exact check_leaves (w.heap.size + 1) w _ _ (some d) _ (Nat.le_succ _) (below_step HW.out HB) (HD.out.below HB HD.out.lt) rfl (.inr ⟨d, rfl, rfl⟩)
  have HM : Hid (checkM p = none) := hi_ (by rw [HR.out, h5])
  simp only [outE]
  have hD := HD.out.below HB HD.out.lt
  have z0 : w5.cell? ⟨w.heap.size + 1, 0, none⟩ = some (.int .i64 0) := hD.cell 0
  have z1 : w5.cell? ⟨w.heap.size + 1, 1, none⟩ = some (.int .i64 0) := hD.cell 1
  have z2 : w5.cell? ⟨w.heap.size + 1, 2, none⟩ = some (.int .i64 0) := hD.cell 2
  have z3 : w5.cell? ⟨w.heap.size + 1, 3, none⟩ = some (.int .i64 0) := hD.cell 3
  have f0 : w5.frozen? ⟨w.heap.size + 1, 0, none⟩ = false := hD.frozen 0
  have f1 : w5.frozen? ⟨w.heap.size + 1, 1, none⟩ = false := hD.frozen 1
  have f2 : w5.frozen? ⟨w.heap.size + 1, 2, none⟩ = false := hD.frozen 2
  have f3 : w5.frozen? ⟨w.heap.size + 1, 3, none⟩ = false := hD.frozen 3
  have HBw := hi_ (below_step HW.out HB)
  have HD5 := hi_ hD
  clear hD hp HB
  go_wp2
  rw [diagM, HM.out]
  have e0 : Below w.heap.size w (w5.setCell ⟨w.heap.size + 1, 0, none⟩ (.int .i64 0)) := HBw.out.setCell (Nat.le_succ _) _
  have e1 : Below w.heap.size w ((w5.setCell ⟨w.heap.size + 1, 0, none⟩ (.int .i64 0)).setCell ⟨w.heap.size + 1, 1, none⟩ (.int .i64 0)) := e0.setCell (Nat.le_succ _) _
  have e2 : Below w.heap.size w (((w5.setCell ⟨w.heap.size + 1, 0, none⟩ (.int .i64 0)).setCell ⟨w.heap.size + 1, 1, none⟩ (.int .i64 0)).setCell ⟨w.heap.size + 1, 2, none⟩ (.int .i64 0)) := e1.setCell (Nat.le_succ _) _
  have e3 : Below w.heap.size w ((((w5.setCell ⟨w.heap.size + 1, 0, none⟩ (.int .i64 0)).setCell ⟨w.heap.size + 1, 1, none⟩ (.int .i64 0)).setCell ⟨w.heap.size + 1, 2, none⟩ (.int .i64 0)).setCell ⟨w.heap.size + 1, 3, none⟩ (.int .i64 0)) := e2.setCell (Nat.le_succ _) _
  exact check_leaves (w.heap.size + 1) w _ _ none _ (Nat.le_succ _) e3 ((((HD5.out.set_ 0 (.int .i64 0)).set_ 1 (.int .i64 0)).set_ 2 (.int .i64 0)).set_ 3 (.int .i64 0)) rfl (.inl ⟨rfl, rfl⟩)
theorem co_ex {α : Type} {f : Nat → Option α} {r : α} : ∀ {n : Nat}, firstE n f = some r → ∃ i, i < n ∧ f i = some r ∧ ∀ j, j < i → f j = none
  | 0, h => by cases h
  | n + 1, h => by
    rw [firstE] at h
    rcases hf : firstE n f with _ | x
    · rw [hf] at h
      exact ⟨n, by omega, h, firstE_inv hf⟩
    · rw [hf] at h
      simp only [Option.some.injEq] at h
      subst h
      obtain ⟨i, h1, h2, h3⟩ := co_ex hf
      exact ⟨i, by omega, h2, h3⟩
theorem co_mAt (l : List FieldD) (i : Nat) (hi : i < l.length) {d : DiagD} (h : mAt l i = some d) : d.code ≠ 0 := by
  rcases h2 : fldM l i with _ | e
  · rw [mAt_none h2] at h; cases h
  · rw [mAt_some h2] at h
    have hn : e ≠ 0 := by
      rw [fldM_at l i hi] at h2
      split at h2
      · cases h2; decide
      · split at h2
        · cases h2; decide
        · split at h2
          · cases h2; decide
          · cases h2
    cases h
    exact hn
theorem co_flowEq (p : ProgD) : flowM p = if (parserM p).2.2 ≠ 0 then some ⟨(parserM p).2.2, 6, (parserM p).1, (parserM p).2.1⟩
  else if (ctlM p).2 ≠ 0 then some ⟨(ctlM p).2, 7, (ctlM p).1, 0⟩
  else if (depM p).2 ≠ 0 then some ⟨(depM p).2, 8, (depM p).1, 0⟩ else none := rfl
theorem co_first {f : Nat → Option DiagD} {n : Nat} (h : ∀ k d, k < n → f k = some d → d.code ≠ 0) : ∀ d, firstE n f = some d → d.code ≠ 0 := by
  intro d he
  obtain ⟨i, hi, h1, _⟩ := co_ex he
  exact h i d hi h1
theorem co_lim {p : ProgD} : ∀ d, limM p = some d → d.code ≠ 0 := by
  intro d h
  unfold limM at h
  split at h
  · cases h; first | decide | (show (6 : Int) ≠ 0; decide) | (show (7 : Int) ≠ 0; decide) | (show (5 : Int) ≠ 0; decide)
  split at h
  · cases h; first | decide | (show (6 : Int) ≠ 0; decide) | (show (7 : Int) ≠ 0; decide) | (show (5 : Int) ≠ 0; decide)
  split at h
  · cases h; first | decide | (show (6 : Int) ≠ 0; decide) | (show (7 : Int) ≠ 0; decide) | (show (5 : Int) ≠ 0; decide)
  split at h
  · cases h; first | decide | (show (6 : Int) ≠ 0; decide) | (show (7 : Int) ≠ 0; decide) | (show (5 : Int) ≠ 0; decide)
  split at h
  · cases h; first | decide | (show (6 : Int) ≠ 0; decide) | (show (7 : Int) ≠ 0; decide) | (show (5 : Int) ≠ 0; decide)
  cases h
theorem co_hdrs {p : ProgD} : ∀ d, hdrsM p = some d → d.code ≠ 0 := co_first fun k d hk h => by
  rw [hdrAtM_at _ k hk] at h
  split at h
  · cases h; assumption
  split at h
  · cases h; first | decide | (show (6 : Int) ≠ 0; decide) | (show (7 : Int) ≠ 0; decide) | (show (5 : Int) ≠ 0; decide)
  split at h
  · cases h; first | decide | (show (6 : Int) ≠ 0; decide) | (show (7 : Int) ≠ 0; decide) | (show (5 : Int) ≠ 0; decide)
  cases h
theorem co_meta {p : ProgD} : ∀ d, metaM p = some d → d.code ≠ 0 := by
  intro d h
  rw [metaM_eq] at h
  split at h
  · cases h; first | decide | (show (6 : Int) ≠ 0; decide) | (show (7 : Int) ≠ 0; decide) | (show (5 : Int) ≠ 0; decide)
  rcases hf : firstE p.metadata.l.length (mAt p.metadata.l) with _ | x
  · rw [hf] at h
    simp only at h
    refine co_first (f := wAt p.metadata.l) (n := 3) (fun k d hk h => ?_) d h
    unfold wAt at h
    split at h
    · cases h; first | decide | (show (6 : Int) ≠ 0; decide) | (show (7 : Int) ≠ 0; decide) | (show (5 : Int) ≠ 0; decide)
    · cases h
  · rw [hf] at h
    simp only [Option.some.injEq] at h
    subst h
    refine co_first (f := mAt p.metadata.l) (fun k d hk h => ?_) x hf
    exact co_mAt _ k hk h
theorem co_regs {p : ProgD} : ∀ d, regsM p = some d → d.code ≠ 0 := co_first fun k d hk h => by
  rw [regAtM_at _ k hk] at h
  split at h
  · cases h; assumption
  split at h
  · cases h; first | decide | (show (6 : Int) ≠ 0; decide) | (show (7 : Int) ≠ 0; decide) | (show (5 : Int) ≠ 0; decide)
  cases h
theorem co_acts {p : ProgD} : ∀ d, actsM p = some d → d.code ≠ 0 := co_first fun k d hk h => by
  rw [actAtM_at _ k hk] at h
  split at h
  · cases h; assumption
  split at h
  · cases h; first | decide | (show (6 : Int) ≠ 0; decide) | (show (7 : Int) ≠ 0; decide) | (show (5 : Int) ≠ 0; decide)
  cases h
theorem co_tabs {p : ProgD} : ∀ d, tabsM p = some d → d.code ≠ 0 := co_first fun k d hk h => by
  rw [tabAtM_at _ k hk] at h
  split at h
  · cases h; assumption
  split at h
  · cases h; first | decide | (show (6 : Int) ≠ 0; decide) | (show (7 : Int) ≠ 0; decide) | (show (5 : Int) ≠ 0; decide)
  cases h
theorem co_flow {p : ProgD} : ∀ d, flowM p = some d → d.code ≠ 0 := by
  intro d h
  rw [co_flowEq] at h
  split at h
  · cases h; assumption
  split at h
  · cases h; assumption
  split at h
  · cases h; assumption
  cases h
theorem co_slice {w : World} {B : Nat} {t : TypeId} {k : Nat} {v : Value} {n : Nat} {xs : List Value} (h : w.ownsRow B t k v n xs) : ∃ A c, v = .slice A n c := by
  rcases h.2 with ⟨hv, h0⟩ | ⟨g', cap, cur, hv, _, _, _⟩
  · exact ⟨none, 0, by rw [hv, h0]⟩
  · exact ⟨_, _, hv⟩
end Go.Proofs.YtbfjknidinkafaaGreat
