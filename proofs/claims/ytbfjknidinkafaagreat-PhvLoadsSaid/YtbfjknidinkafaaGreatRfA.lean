/- The walk of the reference check of a header: it answers as the model hdrM. No condition but that the header lies in memory. -/
import Derived.Test.YtbfjknidinkafaaGreatCkY
import Derived.Test.YtbfjknidinkafaaGreatRId
namespace Go.Proofs.YtbfjknidinkafaaGreat
open Go.RowKit

set_option maxRecDepth 100000 in
set_option maxHeartbeats 4000000 in
theorem findex_any (nm : ByteArray) (x : L FieldD) (i : Nat) (s : ByteArray) (w : World) (h : LOk w 2 FieldD.cells x) (hi : i < x.l.length) (hs : x.l[i].name = s) :
    Calls Tryz.prog 143 #[.agg #[.string nm, .slice x.A x.l.length x.c], .string s] w fun e w' => ∃ j : Nat, e = .returned (.tuple #[.int .i64 j, .bool true]) ∧ (j < i ↔ dupB (x.l.map FieldD.name) i = true) ∧ j ≤ i ∧ Below w.heap.size w w' := by
  obtain ⟨l, A0, c0⟩ := x
  obtain ⟨W, hW, hw, HB, hp⟩ := box1 w #[.string nm, .slice A0 l.length c0] 96
  have HW := Lib.hid hw
  have HX := Lib.hid (h.below hw (Nat.le_refl _))
  have HI := Lib.hid (show ∃ h : i < l.length, l[i].name = s from ⟨hi, hs⟩)
  have hmx : l.length ≤ 9223372036854775807 := h.1
  clear h hw hs
  simp only at hi ⊢
  obtain ⟨g, of, hA, hall⟩ := FieldD.allA HX.out (show 0 < l.length by omega)
  have HAL := Lib.hid hall
  simp only at hA
  subst hA
  have HB0 := Lib.hid HB
  clear hall
  go_enter Tryz.func143, Tryz.ntmps143
  go_upto_region 1 with fail
  rw [← hW]
  clear hW HB
  go_wp2
  go_loopw [6] (fun iv wr => ∃ k : Nat, k ≤ i ∧ iv = .int .i64 k ∧ Hid (∀ j (hj : j < l.length), j < k → l[j].name ≠ s) ∧ Below W.heap.size W wr) (fun iv _ => l.length - (intOf iv).toNat)
  case atStart => exact ⟨0, Nat.zero_le _, rfl, Lib.hid (fun j _ h => absurd h (Nat.not_lt_zero _)), HB0.out⟩
  case round =>
    obtain ⟨k, hk, rfl, HN, HB⟩ := hrel
    have hlt : k < l.length := by omega
    obtain ⟨d0, _⟩ := HAL.out wr HB k hlt
    have HS : Hid (l[k].name = s → (k < i ↔ dupB (l.map FieldD.name) i = true)) := Lib.hid (by
      obtain ⟨hil, his⟩ := HI.out
      intro hks
      constructor
      · intro hki
        exact dup_yes hil hki (by rw [hks, his])
      · intro hd
        rcases Nat.lt_or_ge k i with h | h
        · exact h
        · rw [dup_no hil (fun j hj hji => by rw [his]; exact HN.out j hj (by omega))] at hd; cases hd)
    have HE : Hid (k = i → l[k].name = s) := Lib.hid (by
      obtain ⟨hil, his⟩ := HI.out
      rintro rfl; exact his)
    have HN2 : Hid (l[k].name ≠ s → ∀ j (hj : j < l.length), j < k + 1 → l[j].name ≠ s) := Lib.hid (fun hne j hj hjk => by
      rcases Nat.lt_succ_iff_lt_or_eq.1 hjk with h1 | rfl
      · exact HN.out j hj h1
      · exact hne)
    generalize l[k].name = t at *
    by_cases ht : t = s
    · have HQ := Lib.hid (HS.out ht)
      have ht' := toList_true ht
      clear ht HS HE HN2
      go_wp2
      go_ret2
      exact ⟨k, rfl, HQ.out, hk, below_step HW.out HB⟩
    · have hki : k < i := by
        rcases Nat.lt_or_ge k i with h | h
        · exact h
        · exact absurd (HE.out (by omega)) ht
      have ht' := toList_false ht
      have HN3 := Lib.hid (HN2.out ht)
      clear ht HS HE HN2
      go_wp2
      go_roundw
      case rel => exact ⟨k + 1, by omega, by go_num, HN3, HB⟩
      case measure => simp [intOf]; omega
theorem widthSum_step {l : List FieldD} {k : Nat} (h : k < l.length) : widthSum (l.take (k + 1)) = widthSum (l.take k) + l[k].width := by
  rw [List.take_succ_eq_append_getElem h]
  simp only [widthSum, List.map_append, List.sum_append, List.map_cons, List.map_nil, List.sum_cons, List.sum_nil]
  omega
set_option maxRecDepth 100000 in
set_option maxHeartbeats 8000000 in
theorem rhdr_any (h : HeaderD) (w : World) (o : HeaderOk w h) :
    Calls Tryz.prog 94 #[.agg #[.string h.name, .slice h.fields.A h.fields.l.length h.fields.c]] w fun e w' => e = .returned (.int .i64 (hdrM h)) ∧ Below w.heap.size w w' := by
  obtain ⟨nm, ⟨l, A0, c0⟩⟩ := h
  have HS : Hid (nm.size ≤ maxLen) := Lib.hid o.name
  have HN : Hid (∀ f ∈ l, f.name.size ≤ maxLen) := Lib.hid o.names
  have HR := Lib.hid (hdrM_eq ⟨nm, ⟨l, A0, c0⟩⟩)
  obtain ⟨W, hW, hw, HB, hp⟩ := box1 w #[.string nm, .slice A0 l.length c0] 96
  have HW := Lib.hid hw
  have HX := Lib.hid (o.fields.below hw (Nat.le_refl _))
  have HB0 := Lib.hid HB
  simp only at HR ⊢
  clear o hw
  by_cases h0 : l.length = 0
  · have h0' : ((l.length : Int) == 0) = true := by rw [beq_iff_eq]; omega
    have HR2 : Hid (hdrM ⟨nm, ⟨l, A0, c0⟩⟩ = if ident nm = false then 6 else 8) := Lib.hid (by rw [HR.out, if_pos h0])
    clear h0
    go_enter Tryz.func94, Tryz.ntmps94
    go_upto_region 1 with fail
    rw [← hW]
    clear hW
    go_wp2_with fail
    refine (risIdent_any nm _ HS.out).mono ?_
    rintro e w' ⟨rfl, rfl⟩
    cases h1 : identM nm.data.toList
    · have HR3 := Lib.hid (HR2.out.trans (if_pos (show ident nm = false from h1)))
      go_wp2
      go_ret
      exact ⟨by rw [HR3.out]; rfl, below_step HW.out HB⟩
    · have HR3 := Lib.hid (HR2.out.trans (if_neg (show ¬ ident nm = false by rw [show ident nm = true from h1]; simp)))
      go_wp2
      go_ret
      exact ⟨by rw [HR3.out]; rfl, below_step HW.out HB⟩
  have h0' : ((l.length : Int) == 0) = false := by rw [beq_eq_false_iff_ne]; omega
  obtain ⟨g, of, hA, hall⟩ := FieldD.allA HX.out (show 0 < l.length by omega)
  have HAL := Lib.hid hall
  simp only at hA
  subst hA
  go_enter Tryz.func94, Tryz.ntmps94
  go_upto_region 1 with fail
  rw [← hW]
  clear hW hall
  go_wp2_with fail
  refine (risIdent_any nm _ HS.out).mono ?_
  rintro e w' ⟨rfl, rfl⟩
  cases h1 : identM nm.data.toList
  · have HR3 := Lib.hid (HR.out.trans (if_pos (show ident nm = false from h1)))
    go_wp2
    go_ret
    exact ⟨by rw [HR3.out]; rfl, below_step HW.out HB⟩
  replace HR := Lib.hid (HR.out.trans ((if_neg (show ¬ ident nm = false by rw [show ident nm = true from h1]; simp)).trans (if_neg h0)))
  clear h0 h1
  by_cases h12 : 12 < l.length
  · have HR3 := Lib.hid (HR.out.trans (if_pos h12))
    go_wp2
    go_ret
    exact ⟨by rw [HR3.out]; rfl, below_step HW.out HB⟩
  replace HR := Lib.hid (HR.out.trans (if_neg h12))
  have h12' : l.length ≤ 12 := by omega
  clear h12
  go_wp2
  clear HB
  go_loopw [3, 4] (fun nv iv wr => ∃ (k : Nat) (n : Int), k ≤ l.length ∧ iv = .int .i64 k ∧ nv = .int .i64 n ∧ 0 ≤ n ∧ n ≤ 32 * (k : Int) ∧ Hid (widthSum (l.take k) = n) ∧ (∀ j, j < k → fldM l j = none) ∧ Below W.heap.size W wr) (fun _ i _ => l.length - (intOf i).toNat)
  case atStart => exact ⟨0, 0, Nat.zero_le _, rfl, rfl, by omega, by omega, Lib.hid (by simp [widthSum]), fun j h => absurd h (Nat.not_lt_zero _), HB0.out⟩
  case round =>
    obtain ⟨k, n, hk, rfl, rfl, hn0, hn1, HSum, hpre, HB⟩ := hrel
    have HPre := Lib.hid hpre
    clear hpre
    by_cases hlt : k < l.length
    · obtain ⟨d0, d1⟩ := HAL.out wr HB k hlt
      have HF := Lib.hid (fldM_at l k hlt)
      have HNk := Lib.hid (HN.out _ (List.getElem_mem hlt))
      have HSt : Hid (widthSum (l.take (k + 1)) = n + l[k].width) := Lib.hid (by rw [widthSum_step hlt, HSum.out])
      have HFx : Hid (∀ u, Below wr.heap.size wr u → _) := Lib.hid (fun u hb => findex_any nm ⟨l, some ⟨g, of, none⟩, c0⟩ k l[k].name u (HX.out.below (below_step HB hb) (Nat.le_refl _)) hlt rfl)
      generalize l[k] = y at *
      obtain ⟨yn, yw⟩ := y
      simp only at HF HNk d0 d1 HSt HFx
      refine Exists.elim (box1 wr #[.string yn, .int .i64 yw] 135) ?_
      rintro U ⟨hU, hu, hUU, hbx⟩
      have HU := Lib.hid (below_step HB hu)
      have HFy := Lib.hid (HFx.out U hu)
      go_upto_region 12 with fail
      rw [← hU]
      clear hU hu d0 d1 HB HFx
      have HB := hUU
      have hq := fun w' (h : Below U.heap.size U w') => hp w' (below_step HU.out h)
      clear hp hUU
      go_wp2_with fail
      refine HFy.out.mono ?_
      rintro e w2 ⟨j, rfl, hj, hjk, hbN⟩
      replace HB := below_step HB hbN
      have HJ := Lib.hid hj
      clear hbN hj HFy
      go_wp2_with fail
      refine (risIdent_any yn _ HNk.out).mono ?_
      rintro e w' ⟨rfl, rfl⟩
      cases h1 : identM yn.data.toList
      · have HE := Lib.hid (HF.out.trans (if_pos (show ident yn = false from h1)))
        have HR2 := Lib.hid (HR.out.trans (show _ = (6 : Int) by rw [firstE_some hlt HPre.out HE.out]))
        go_wp2
        go_ret
        exact ⟨by rw [HR2.out]; rfl, below_step HW.out (below_step HU.out HB)⟩
      have HF1 := Lib.hid (HF.out.trans (if_neg (show ¬ ident yn = false by rw [show ident yn = true from h1]; simp)))
      clear HF h1
      cases h2 : okW yw
      · have HE := Lib.hid (HF1.out.trans (if_pos h2))
        have HR2 := Lib.hid (HR.out.trans (show _ = (10 : Int) by rw [firstE_some hlt HPre.out HE.out]))
        have h3 : yw < 1 ∨ (1 ≤ yw ∧ 32 < yw) := by have := okW_not.1 h2; omega
        rcases h3 with h3 | ⟨h3, h4⟩
        all_goals
          go_wp2
          go_ret
          exact ⟨by rw [HR2.out]; rfl, below_step HW.out (below_step HU.out HB)⟩
      have HF2 := Lib.hid (HF1.out.trans (if_neg (by rw [h2]; simp)))
      clear HF1
      obtain ⟨yw1, yw2⟩ := okW_iff.1 h2
      clear h2
      by_cases hjl : j < k
      · have HE := Lib.hid (HF2.out.trans (if_pos (HJ.out.1 hjl)))
        have HR2 := Lib.hid (HR.out.trans (show _ = (7 : Int) by rw [firstE_some hlt HPre.out HE.out]))
        have hjl' : (j : Int) < (k : Int) := by omega
        clear hjl
        go_wp2
        go_ret
        exact ⟨by rw [HR2.out]; rfl, below_step HW.out (below_step HU.out HB)⟩
      · have HE := Lib.hid (HF2.out.trans (if_neg (fun e => hjl (HJ.out.2 e))))
        have hjl' : ¬ (j : Int) < (k : Int) := by omega
        have hwr : IntKind.i64.wrap (n + yw) = n + yw := IntWalk.i64_in _ (by omega)
        clear hjl
        go_wp2
        go_roundw
        case rel => exact ⟨k + 1, n + yw, by omega, by go_num, by go_num, by omega, by omega, HSt, firstE_step HPre.out HE.out, below_step HU.out HB⟩
        case measure => simp [intOf]; omega
    · have e : k = l.length := by omega
      have hpre := HPre.out
      rw [e] at hpre
      have HR2 := Lib.hid (HR.out.trans (show _ = (if Int.tmod n 8 ≠ 0 then (10 : Int) else 0) by
        have h := HSum.out
        rw [e, List.take_length] at h
        rw [firstE_none hpre, h]))
      clear e hpre HPre
      rw [Int.tmod_eq_emod_of_nonneg hn0] at HR2
      by_cases h8 : n % 8 = 0
      · have HR3 := Lib.hid (HR2.out.trans (if_neg (fun h => h h8)))
        have h8' : (n % 8 == 0) = true := beq_iff_eq.2 h8
        clear h8
        go_wp2
        go_ret
        exact ⟨by rw [HR3.out]; rfl, below_step HW.out HB⟩
      · have HR3 := Lib.hid (HR2.out.trans (if_pos h8))
        have h8' : (n % 8 == 0) = false := beq_eq_false_iff_ne.2 h8
        clear h8
        go_wp2
        go_ret
        exact ⟨by rw [HR3.out]; rfl, below_step HW.out HB⟩
end Go.Proofs.YtbfjknidinkafaaGreat

