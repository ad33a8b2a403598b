/- Walks of package table's check of actions, and of Check, on any program. No condition but that the program lies in memory and its numbers are of their kinds. -/
import Derived.Test.YtbfjknidinkafaaGreatCkN
namespace Go.Proofs.YtbfjknidinkafaaGreat
open Go.RowKit Go.Maps

theorem tactsM_eq (p : ProgD) (t : TabD) : tactsM p t = match firstE t.acts.l.length (tactAtM p t.acts.l) with
  | some e => e
  | none => if t.defA ∈ t.acts.l then callM p t.defA t.args.l else 8 := rfl
theorem tactAtM_at (p : ProgD) (l : List Int) (k : Nat) (h : k < l.length) : tactAtM p l k = if l[k] < 0 ∨ (p.actions.l.length : Int) ≤ l[k] then some 8 else if l[k] ∈ l.take k then some 7 else none := by
  rw [tactAtM, List.getElem?_eq_getElem h]
theorem wf_of {a : Int} (h1 : 0 ≤ a) (h2 : a ≤ 9223372036854775807) : (Lit.int .i64 a).wf = true := by
  have e1 : IntKind.i64.min = -9223372036854775808 := rfl
  have e2 : IntKind.i64.max = 9223372036854775807 := rfl
  simp only [Lit.wf, Bool.and_eq_true, decide_eq_true_eq]
  omega

set_option maxRecDepth 100000 in
set_option maxHeartbeats 4000000 in
theorem checkActions_any (p : ProgD) (t : TabD) (w : World) (o : ProgOk w p) (ot : TabOk w t) (hwf : (Lit.int .i64 t.defA).wf = true) :
    Calls Tryz.prog 173 #[.agg (progCells p), .agg (tabCells t)] w fun e w' => e = .returned (.int .i64 (tactsM p t)) ∧ Below w.heap.size w w' := by
  obtain ⟨tn, tk, ⟨al, aA, ac⟩, td, ⟨gl, gA, gc⟩, tz⟩ := t
  have HO := Lib.hid o
  have HK := Lib.hid ot.acts
  have HG := Lib.hid ot.args
  have HWF := Lib.hid hwf
  simp only at HK HG HWF
  obtain ⟨W, hW, hw, HB, hp⟩ := box2 w (progCells p) 31 (tabCells ⟨tn, tk, ⟨al, aA, ac⟩, td, ⟨gl, gA, gc⟩, tz⟩) 129
  have HW := Lib.hid hw
  have HR := Lib.hid (tactsM_eq p ⟨tn, tk, ⟨al, aA, ac⟩, td, ⟨gl, gA, gc⟩, tz⟩)
  have HS := Lib.hid (tactAtM_at p al)
  have HT := Lib.hid (take_snoc al)
  simp only at HR
  have hmm := @run_makeMap Tryz.prog
  have hm1 := HK.out.1
  have hm2 := o.actions.1
  unfold maxLen at hm1 hm2
  simp only at hm1
  have hHS : W.heap.size = W.heap.size := rfl
  obtain ⟨W1, hW1⟩ : ∃ W1, W1 = W.alloc (.map #[] 0) := ⟨_, rfl⟩
  have b1 : Below W.heap.size W W1 := by rw [hW1]; exact below1 _ _
  have hown : W1.ownsMap Tryz.prog 3 (plainElem (H := Unit) Tryz.prog 4) W.heap.size 0 (setL []) := by rw [hW1]; exact World.ownsMap_made _ _ _ _
  have HOW := Lib.hid hown
  have HB1 := Lib.hid b1
  clear o ot hw hown b1 hHS hwf
  go_enter Tryz.func173, Tryz.ntmps173
  go_upto_region 1 with fail
  rw [← hW]
  clear hW
  have hp1 := hp W HB
  have hca := @World.cell?_alloc_some
  go_wp2
  rw [← hW1]
  clear hW1 HB hmm hp1 hca
  go_loopw [7, 12] (fun _ iv wr => ∃ k : Nat, k ≤ al.length ∧ iv = .int .i64 k ∧ (∀ j, j < k → tactAtM p al j = none) ∧ Below W.heap.size W wr ∧ wr.ownsMap Tryz.prog 3 (plainElem (H := Unit) Tryz.prog 4) W.heap.size k (setL ((al.take k).map ilit))) (fun _ i _ => al.length - (intOf i).toNat)
  case atStart => exact ⟨0, Nat.zero_le _, rfl, fun j h => absurd h (Nat.not_lt_zero _), HB1.out, HOW.out⟩
  case round =>
    obtain ⟨k, hk, rfl, hpre, HB, hown⟩ := hrel
    have HPre := Lib.hid hpre
    have HOwn := Lib.hid hown
    clear hpre hown
    have hp1 := hp wr HB
    by_cases hlt : k < al.length
    · obtain ⟨g, of, hA, d0⟩ := icell_at (HK.out.below (below_step HW.out HB) (Nat.le_refl _)) hlt
      have HE := Lib.hid (HS.out k hlt)
      have HTk : Hid ((al.take (k + 1)).map ilit = (al.take k).map ilit ++ [ilit al[k]]) := Lib.hid (by rw [HT.out k hlt, List.map_append]; rfl)
      simp only at hA d0
      subst hA
      generalize al[k] = a at *
      have hcase : a < 0 ∨ (0 ≤ a ∧ (p.actions.l.length : Int) ≤ a) ∨ (0 ≤ a ∧ a < (p.actions.l.length : Int)) := by omega
      rcases hcase with h1 | ⟨h1, h2⟩ | ⟨h1, h2⟩
      · have HE2 := Lib.hid (HE.out.trans (if_pos (Or.inl h1)))
        have HR2 := Lib.hid (HR.out.trans (show _ = (8 : Int) by rw [firstE_some hlt HPre.out HE2.out]))
        go_wp2
        go_ret
        exact ⟨by rw [HR2.out]; rfl, below_step HW.out HB⟩
      · have HE2 := Lib.hid (HE.out.trans (if_pos (Or.inr h2)))
        have HR2 := Lib.hid (HR.out.trans (show _ = (8 : Int) by rw [firstE_some hlt HPre.out HE2.out]))
        go_wp2
        go_ret
        exact ⟨by rw [HR2.out]; rfl, below_step HW.out HB⟩
      · have HE2 := Lib.hid (HE.out.trans (if_neg (show ¬ (a < 0 ∨ (p.actions.l.length : Int) ≤ a) by omega)))
        have HWa := Lib.hid (wf_of h1 (show a ≤ 9223372036854775807 by omega))
        have hl := look_int HOwn.out a HWa.out
        by_cases hd : a ∈ al.take k
        · have HE3 := Lib.hid (HE2.out.trans (if_pos hd))
          have HR2 := Lib.hid (HR.out.trans (show _ = (7 : Int) by rw [firstE_some hlt HPre.out HE3.out]))
          rw [decide_eq_true hd] at hl
          clear hd
          go_wp2
          go_ret
          exact ⟨by rw [HR2.out]; rfl, below_step HW.out HB⟩
        · have HE3 := Lib.hid (HE2.out.trans (if_neg hd))
          rw [decide_eq_false hd] at hl
          clear hd
          go_wp2_with (first
            | (at_mapUpdate; refine wpList_mapUpdate_own _ rfl _ _ _ 243 rfl 3 4 (int_keyed Tryz.underlying3) Tryz.underlying243 (plainElem (H := Unit) Tryz.prog 4) W.heap.size k (setL ((al.take k).map ilit)) rfl HOwn.out ?m1 _ _ (ilit a) rfl rfl ?m2 (.lit (.bool true)) [] ?m3 ?_))
          case m1 => unfold maxLen; omega
          case m2 => exact keyOf_int_mk Tryz.underlying3 HWa.out
          case m3 => exact plainElem_bool Tryz.underlying4 true
          intro w2 hown2 hgrow2
          have hb2 : Below W.heap.size W w2 := HB.grown hgrow2 HB.size fun j hj => by simp at hj; omega
          have HO2 : Hid (w2.ownsMap Tryz.prog 3 (plainElem (H := Unit) Tryz.prog 4) W.heap.size (k + 1) (setL ((al.take (k + 1)).map ilit))) := Lib.hid (by rw [HTk.out, setL_snoc, List.map_take]; exact hown2)
          clear hown2 hgrow2 hl
          go_wp2
          go_roundw
          case rel => exact ⟨k + 1, by omega, by go_num, firstE_step HPre.out HE3.out, hb2, HO2.out⟩
          case measure => simp [intOf]; omega
    · have e : k = al.length := by omega
      have HR2 := Lib.hid (HR.out.trans (show _ = (if td ∈ al then callM p td gl else 8) by rw [firstE_none (by rw [← e]; exact HPre.out)]))
      have hl := look_int HOwn.out td HWF.out
      rw [show al.take k = al by rw [e, List.take_length]] at hl
      by_cases hd : td ∈ al
      · rw [decide_eq_true hd] at hl
        replace HR2 := Lib.hid (HR2.out.trans (if_pos hd))
        clear hd
        go_wp2_with fail
        refine (checkCall_any p td ⟨gl, gA, gc⟩ _ (HO.out.below (below_step HW.out (by first | exact HB | exact below_alloc HB _ | exact below_alloc (below_alloc HB _) _ | exact below_alloc (below_alloc (below_alloc HB _) _) _))) (HG.out.below (below_step HW.out (by first | exact HB | exact below_alloc HB _ | exact below_alloc (below_alloc HB _) _ | exact below_alloc (below_alloc (below_alloc HB _) _) _)) (Nat.le_refl _))).mono ?_
        rintro e w2 ⟨rfl, hbN⟩
        replace HB := below_step (by first | exact HB | exact below_alloc HB _ | exact below_alloc (below_alloc HB _) _ | exact below_alloc (below_alloc (below_alloc HB _) _) _) hbN
        clear hbN
        go_wp2
        go_ret
        exact ⟨by rw [HR2.out]; rfl, below_step HW.out HB⟩
      · rw [decide_eq_false hd] at hl
        replace HR2 := Lib.hid (HR2.out.trans (if_neg hd))
        clear hd
        go_wp2
        go_ret
        exact ⟨by rw [HR2.out]; rfl, below_step HW.out HB⟩

set_option maxRecDepth 100000 in
set_option maxHeartbeats 4000000 in
theorem tableCheck_any (p : ProgD) (i : Nat) (hi : i < p.tables.l.length) (w : World) (o : ProgOk w p) (hc : ∀ t ∈ p.tables.l, (Lit.int .i64 t.defA).wf = true) :
    Calls Tryz.prog 134 #[.agg (progCells p), .int .i64 i] w fun e w' => e = .returned (.tuple #[.int .i64 (tabM p p.tables.l[i]).1, .int .i64 (tabM p p.tables.l[i]).2]) ∧ Below w.heap.size w w' := by
  have HO := Lib.hid o
  obtain ⟨W, hW, hw, HB, hp⟩ := box1 w (progCells p) 31
  have HW := Lib.hid hw
  have HA : Hid (TabOk W p.tables.l[i]) := Lib.hid ((o.tab _ (List.getElem_mem hi)).below hw)
  have HC := Lib.hid (hc _ (List.getElem_mem hi))
  have HR := Lib.hid (tabM.eq_1 p p.tables.l[i])
  obtain ⟨g, of, hA, hq⟩ := TabD.atA (o.tables.below hw (Nat.le_refl _)) hi
  have hn1 : (i : Int) < (p.tables.l.length : Int) := by omega
  clear o hw hc
  generalize p.tables.l[i] = t at *
  obtain ⟨tn, ⟨kl, kA, kc⟩, ⟨al, aA, ac⟩, td, ⟨gl, gA, gc⟩, tz⟩ := t
  simp only at HR hq
  have HAA := Lib.hid hA
  simp only [progCells, hA] at hp hW ⊢
  clear hA
  go_enter Tryz.func134, Tryz.ntmps134
  go_upto_region 1 with fail
  rw [← hW]
  clear hW
  refine Exists.elim (box1 W #[.string tn, .slice kA kl.length kc, .slice aA al.length ac, .int .i64 td, .slice gA gl.length gc, .int .i64 tz] 129) ?_
  rintro U ⟨hU, hu, hUU, hc⟩
  go_wp2_with fail
  rw [← hU]
  clear hU
  have HU := Lib.hid hu
  have hp2 := fun w' h => hp w' (below_step hu h)
  replace HB := hUU
  have HHS : Hid (tn.size ≤ maxLen) := Lib.hid HA.out.name
  clear hp hUU hu
  refine (isIdent_any tn _ HHS.out).mono ?_
  rintro e w' ⟨rfl, rfl⟩
  cases h1 : identM tn.data.toList
  · replace HR := Lib.hid (HR.out.trans (if_pos (show ident tn = false from h1)))
    go_wp2
    go_ret2
    exact ⟨ret_pp HR.out, below_step HW.out (below_step HU.out HB)⟩
  replace HR := Lib.hid (HR.out.trans (if_neg (show ¬ ident tn = false by rw [show ident tn = true from h1]; simp)))
  clear h1
  by_cases h2 : 6 < kl.length ∨ 16 < al.length
  · replace HR := Lib.hid (HR.out.trans (if_pos h2))
    have h2' : 6 < kl.length ∨ (kl.length ≤ 6 ∧ 16 < al.length) := by omega
    rcases h2' with h2 | ⟨h2, h3⟩
    all_goals
      go_wp2
      go_ret2
      exact ⟨ret_pp HR.out, below_step HW.out (below_step HU.out HB)⟩
  replace HR := Lib.hid (HR.out.trans (if_neg h2))
  have h3 : kl.length ≤ 6 := by omega
  have h4 : al.length ≤ 16 := by omega
  clear h2
  by_cases h2 : tz < 1 ∨ 256 < tz
  · replace HR := Lib.hid (HR.out.trans (if_pos h2))
    have h2' : tz < 1 ∨ (1 ≤ tz ∧ 256 < tz) := by omega
    rcases h2' with h2 | ⟨h2, h5⟩
    all_goals
      go_wp2
      go_ret2
      exact ⟨ret_pp HR.out, below_step HW.out (below_step HU.out HB)⟩
  replace HR := Lib.hid (HR.out.trans (if_neg h2))
  have h5 : 1 ≤ tz := by omega
  have h6 : tz ≤ 256 := by omega
  clear h2
  go_wp2_with fail
  have hCN := checkKeys_any p ⟨tn, ⟨kl, kA, kc⟩, ⟨al, aA, ac⟩, td, ⟨gl, gA, gc⟩, tz⟩ U (HO.out.below (below_step HW.out (below_step HU.out (by first | exact HB | exact below_alloc HB _ | exact below_alloc (below_alloc HB _) _ | exact below_alloc (below_alloc (below_alloc HB _) _) _)))) (HA.out.below (below_step HU.out (by first | exact HB | exact below_alloc HB _ | exact below_alloc (below_alloc HB _) _ | exact below_alloc (below_alloc (below_alloc HB _) _) _))) h3
  simp only [progCells, HAA.out] at hCN
  refine hCN.mono ?_
  clear hCN
  rintro e w1 ⟨rfl, hbN⟩
  replace HB := below_step (by first | exact HB | exact below_alloc HB _ | exact below_alloc (below_alloc HB _) _ | exact below_alloc (below_alloc (below_alloc HB _) _) _) hbN
  clear hbN
  generalize keysM p kl = r at *
  obtain ⟨ka, kc2⟩ := r
  simp only at HR
  by_cases k1 : kc2 = 0
  case neg =>
    have k1' : (kc2 == 0) = false := beq_eq_false_iff_ne.2 k1
    replace HR := Lib.hid (HR.out.trans (if_pos k1))
    go_wp2
    go_ret2
    exact ⟨ret_pp HR.out, below_step HW.out (below_step HU.out HB)⟩
  subst k1
  replace HR := Lib.hid (HR.out.trans (if_neg (by simp)))
  go_wp2_with fail
  have hCN := checkActions_any p ⟨tn, ⟨kl, kA, kc⟩, ⟨al, aA, ac⟩, td, ⟨gl, gA, gc⟩, tz⟩ w1 (HO.out.below (below_step HW.out (below_step HU.out (by first | exact HB | exact below_alloc HB _ | exact below_alloc (below_alloc HB _) _ | exact below_alloc (below_alloc (below_alloc HB _) _) _)))) (HA.out.below (below_step HU.out (by first | exact HB | exact below_alloc HB _ | exact below_alloc (below_alloc HB _) _ | exact below_alloc (below_alloc (below_alloc HB _) _) _))) HC.out
  simp only [progCells, HAA.out] at hCN
  refine hCN.mono ?_
  clear hCN
  rintro e w2 ⟨rfl, hbN⟩
  replace HB := below_step (by first | exact HB | exact below_alloc HB _ | exact below_alloc (below_alloc HB _) _ | exact below_alloc (below_alloc (below_alloc HB _) _) _) hbN
  clear hbN
  generalize tactsM p ⟨tn, ⟨kl, kA, kc⟩, ⟨al, aA, ac⟩, td, ⟨gl, gA, gc⟩, tz⟩ = tm at *
  by_cases k1 : tm = 0
  · subst k1
    replace HR := Lib.hid (HR.out.trans (if_neg (by simp)))
    go_wp2
    go_ret2
    exact ⟨ret_pp HR.out, below_step HW.out (below_step HU.out HB)⟩
  · have k1' : (tm == 0) = false := beq_eq_false_iff_ne.2 k1
    replace HR := Lib.hid (HR.out.trans (if_pos k1))
    go_wp2
    go_ret2
    exact ⟨ret_pp HR.out, below_step HW.out (below_step HU.out HB)⟩
end Go.Proofs.YtbfjknidinkafaaGreat

