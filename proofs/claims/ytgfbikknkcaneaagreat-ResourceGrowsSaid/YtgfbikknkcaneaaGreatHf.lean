/- The walk of the reference's IsIdentifier. No condition but the length of the text. The walk of the reference check of a header: it answers as the model hdrM. No condition but that the header lies in memory. Walks of the reference's checks: register, params, sized. No condition but that the data lie in memory. The walk of the reference's check of a statement. No condition but that the program lies in memory. -/
import Derived.Test.YtgfbikknkcaneaaGreatPgA
import Derived.Test.YtgfbikknkcaneaaGreatCkY
import Derived.Test.YtgfbikknkcaneaaGreatRcF
import Derived.Test.YtgfbikknkcaneaaGreatCkJ
namespace Go.Proofs.YtgfbikknkcaneaaGreat
open Go.RowKit
set_option maxHeartbeats 400000 in
theorem rdig5_any (c : Int) (w : World) :
    Calls Tryz.prog 147 #[.int .u8 c] w fun e w' => e = .returned (.bool (isDig c)) ∧ w = w' := by
  go_enter Tryz.func147, Tryz.ntmps147
  go_wp2
  all_goals (go_ret; exact ⟨ret_bool (by rw [Bool.eq_iff_iff]; simp [isDig]; omega), rfl⟩)
theorem isWord_let {c : Int} (h : isLet c = true) : isWord c = true := by rw [isWord, h]; rfl
theorem ext_step {p : Int → Bool} {l : List UInt8} {k : Nat} (hk : k ≤ ext p l) (hlt : k < l.length) (hp : p ((l[k]'hlt).toNat : Nat) = true) : k + 1 ≤ ext p l := by
  rcases Nat.lt_or_ge k (ext p l) with h | h
  · exact h
  · have e : ext p l = k := by omega
    have := ext_stop p l (by omega)
    simp only [e] at this
    rw [hp] at this
    cases this
theorem ext_end {p : Int → Bool} {l : List UInt8} {k : Nat} (hk : k ≤ ext p l) (hlt : k < l.length) (hp : p ((l[k]'hlt).toNat : Nat) = false) : ext p l = k := by
  rcases Nat.lt_or_ge k (ext p l) with h | h
  · have := ext_all p l k h
    rw [hp] at this; cases this
  · omega

set_option maxRecDepth 100000 in
set_option maxHeartbeats 2000000 in
theorem risIdent_any (s : ByteArray) (w : World) (hs : s.size ≤ maxLen) :
    Calls Tryz.prog 91 #[.string s] w fun e w' => e = .returned (.bool (identM s.data.toList)) ∧ w = w' := by
  unfold maxLen at hs
  rcases Nat.eq_zero_or_pos s.size with hz | h0
  · have hz' : s.data.toList = [] := List.eq_nil_of_length_eq_zero hz
    have HZ := Lib.hid hz'
    have h1 : s.toList = [] := by rw [toList_data, hz']
    clear hz hz'
    go_enter Tryz.func91, Tryz.ntmps91
    go_wp2
    go_ret
    exact ⟨by rw [HZ.out]; rfl, rfl⟩
  · have h1 : s.toList.isEmpty = false := by rw [toList_data, list_one s h0]; rfl
    have HI := Lib.hid (identM_head s h0)
    by_cases h16 : 16 < s.size
    · go_enter Tryz.func91, Tryz.ntmps91
      go_wp2
      go_ret
      exact ⟨by rw [HI.out, show decide (s.size ≤ 16) = false from by simp; omega]; rfl, rfl⟩
    · have H16 : Hid (decide (s.size ≤ 16) = true) := Lib.hid (by simp; omega)
      rcases hl : isLet (s[0].toNat : Int) with _ | _
      · have HL := Lib.hid hl
        clear hl
        go_enter Tryz.func91, Tryz.ntmps91
        go_wp2_with fail
        refine (rletter_any _ _).mono ?_
        rintro e w' ⟨rfl, rfl⟩
        have hl := HL.out
        go_wp2
        go_ret
        exact ⟨by rw [HI.out, H16.out, HL.out]; rfl, rfl⟩
      · have HL := Lib.hid hl
        have HM : Hid (identM s.data.toList = decide (ext isWord s.data.toList = s.size)) := Lib.hid (by rw [HI.out, H16.out, hl]; rfl)
        clear hl
        have hle : ext isWord s.data.toList ≤ s.size := ext_le _ _
        go_enter Tryz.func91, Tryz.ntmps91
        go_wp2_with fail
        refine (rletter_any _ _).mono ?_
        rintro e w' ⟨rfl, rfl⟩
        have hl := HL.out
        go_wp2
        clear hl
        go_loop [3] (fun i => ∃ k : Nat, k ≤ ext isWord s.data.toList ∧ i = .int .i64 k) (fun i => s.size - (intOf i).toNat)
        case atStart => exact ⟨0, Nat.zero_le _, rfl⟩
        case round =>
          obtain ⟨k, hk, rfl⟩ := hrel
          by_cases hlt : k < s.size
          · rcases hb1 : isLet (s[k].toNat : Int) with _ | _
            · have HB1 := Lib.hid hb1
              clear hb1
              rcases hb2 : isDig (s[k].toNat : Int) with _ | _
              · have HB2 := Lib.hid hb2
                clear hb2
                rcases hb3 : ((s[k].toNat : Int) == 95) with _ | _
                · have HW : Hid (isWord (s[k].toNat : Int) = false) := Lib.hid (by rw [isWord, HB1.out, HB2.out, hb3]; rfl)
                  have hb3' : ((s[k].toNat : Int) != 95) = true := by rw [bne, hb3]; rfl
                  go_wp2_with fail
                  refine (rletter_any _ _).mono ?_
                  rintro e w' ⟨rfl, rfl⟩
                  have hb1 := HB1.out
                  go_wp2_with fail
                  refine (rdig5_any _ _).mono ?_
                  rintro e w' ⟨rfl, rfl⟩
                  have hb2 := HB2.out
                  go_wp2
                  go_ret
                  refine ⟨ret_bool ?_, rfl⟩
                  have := ext_end hk hlt HW.out
                  rw [HM.out, eq_comm]
                  show decide _ = false
                  rw [decide_eq_false_iff_not]; omega
                · have HW : Hid (isWord (s[k].toNat : Int) = true) := Lib.hid (by rw [isWord, hb3, Bool.or_true])
                  have hb3' : ((s[k].toNat : Int) != 95) = false := by rw [bne, hb3]; rfl
                  go_wp2_with fail
                  refine (rletter_any _ _).mono ?_
                  rintro e w' ⟨rfl, rfl⟩
                  have hb1 := HB1.out
                  go_wp2_with fail
                  refine (rdig5_any _ _).mono ?_
                  rintro e w' ⟨rfl, rfl⟩
                  have hb2 := HB2.out
                  go_wp2
                  go_round
                  case rel => exact ⟨k + 1, ext_step hk hlt HW.out, by go_num⟩
                  case measure => simp [intOf]; omega
              · have HB2 := Lib.hid hb2
                clear hb2
                have HW : Hid (isWord (s[k].toNat : Int) = true) := Lib.hid (by rw [isWord, HB2.out, Bool.or_true, Bool.true_or])
                go_wp2_with fail
                refine (rletter_any _ _).mono ?_
                rintro e w' ⟨rfl, rfl⟩
                have hb1 := HB1.out
                go_wp2_with fail
                refine (rdig5_any _ _).mono ?_
                rintro e w' ⟨rfl, rfl⟩
                have hb2 := HB2.out
                go_wp2
                go_round
                case rel => exact ⟨k + 1, ext_step hk hlt HW.out, by go_num⟩
                case measure => simp [intOf]; omega
            · have HB1 := Lib.hid hb1
              clear hb1
              have HW : Hid (isWord (s[k].toNat : Int) = true) := Lib.hid (isWord_let HB1.out)
              go_wp2_with fail
              refine (rletter_any _ _).mono ?_
              rintro e w' ⟨rfl, rfl⟩
              have hb1 := HB1.out
              go_wp2
              go_round
              case rel => exact ⟨k + 1, ext_step hk hlt HW.out, by go_num⟩
              case measure => simp [intOf]; omega
          · go_wp2
            go_ret
            refine ⟨ret_bool ?_, rfl⟩
            rw [HM.out, eq_comm]
            show decide _ = true
            rw [decide_eq_true_iff]; omega

end Go.Proofs.YtgfbikknkcaneaaGreat
namespace Go.Proofs.YtgfbikknkcaneaaGreat
open Go.RowKit

set_option maxRecDepth 100000 in
set_option maxHeartbeats 4000000 in
theorem findex_any (nm : ByteArray) (x : L FieldD) (i : Nat) (s : ByteArray) (w : World) (h : LOk w 2 FieldD.cells x) (hi : i < x.l.length) (hs : x.l[i].name = s) :
    Calls Tryz.prog 92 #[.agg #[.string nm, .slice x.A x.l.length x.c], .string s] w fun e w' => ∃ j : Nat, e = .returned (.tuple #[.int .i64 j, .bool true]) ∧ (j < i ↔ dupB (x.l.map FieldD.name) i = true) ∧ j ≤ i ∧ Below w.heap.size w w' := by
  obtain ⟨l, A0, c0⟩ := x
  obtain ⟨W, hW, hw, HB, hp⟩ := box1 w #[.string nm, .slice A0 l.length c0] 61
  have HW := Lib.hid hw
  have HX := Lib.hid (h.below hw (Nat.le_refl _))
  have HI := Lib.hid (show ∃ h : i < l.length, l[i].name = s from ⟨hi, hs⟩)
  have hmx : l.length ≤ 9223372036854775807 := h.1
  clear h hw hs
  simp only at hi ⊢
  obtain ⟨g, of, hA, hall⟩ := FieldD.allA HX.out (show 0 < l.length by omega)
  have HAL := Lib.hid hall
  simp only at hA
  subst hA
  have HB0 := Lib.hid HB
  clear hall
  go_enter Tryz.func92, Tryz.ntmps92
  go_upto_region 1 with fail
  rw [← hW]
  clear hW HB
  go_wp2
  go_loopw [6] (fun iv wr => ∃ k : Nat, k ≤ i ∧ iv = .int .i64 k ∧ Hid (∀ j (hj : j < l.length), j < k → l[j].name ≠ s) ∧ Below W.heap.size W wr) (fun iv _ => l.length - (intOf iv).toNat)
  case atStart => exact ⟨0, Nat.zero_le _, rfl, Lib.hid (fun j _ h => absurd h (Nat.not_lt_zero _)), HB0.out⟩
  case round =>
    obtain ⟨k, hk, rfl, HN, HB⟩ := hrel
    have hlt : k < l.length := by omega
    obtain ⟨d0, _⟩ := HAL.out wr HB k hlt
    have HS : Hid (l[k].name = s → (k < i ↔ dupB (l.map FieldD.name) i = true)) := Lib.hid (by
      obtain ⟨hil, his⟩ := HI.out
      intro hks
      constructor
      · intro hki
        exact dup_yes hil hki (by rw [hks, his])
      · intro hd
        rcases Nat.lt_or_ge k i with h | h
        · exact h
        · rw [dup_no hil (fun j hj hji => by rw [his]; exact HN.out j hj (by omega))] at hd; cases hd)
    have HE : Hid (k = i → l[k].name = s) := Lib.hid (by
      obtain ⟨hil, his⟩ := HI.out
      rintro rfl; exact his)
    have HN2 : Hid (l[k].name ≠ s → ∀ j (hj : j < l.length), j < k + 1 → l[j].name ≠ s) := Lib.hid (fun hne j hj hjk => by
      rcases Nat.lt_succ_iff_lt_or_eq.1 hjk with h1 | rfl
      · exact HN.out j hj h1
      · exact hne)
    generalize l[k].name = t at *
    by_cases ht : t = s
    · have HQ := Lib.hid (HS.out ht)
      have ht' := toList_true ht
      clear ht HS HE HN2
      go_wp2
      go_ret2
      exact ⟨k, rfl, HQ.out, hk, below_step HW.out HB⟩
    · have hki : k < i := by
        rcases Nat.lt_or_ge k i with h | h
        · exact h
        · exact absurd (HE.out (by omega)) ht
      have ht' := toList_false ht
      have HN3 := Lib.hid (HN2.out ht)
      clear ht HS HE HN2
      go_wp2
      go_roundw
      case rel => exact ⟨k + 1, by omega, by go_num, HN3, HB⟩
      case measure => simp [intOf]; omega
theorem widthSum_step {l : List FieldD} {k : Nat} (h : k < l.length) : widthSum (l.take (k + 1)) = widthSum (l.take k) + l[k].width := by
  rw [List.take_succ_eq_append_getElem h]
  simp only [widthSum, List.map_append, List.sum_append, List.map_cons, List.map_nil, List.sum_cons, List.sum_nil]
  omega
set_option maxRecDepth 100000 in
set_option maxHeartbeats 8000000 in
theorem rhdr_any (h : HeaderD) (w : World) (o : HeaderOk w h) :
    Calls Tryz.prog 27 #[.agg #[.string h.name, .slice h.fields.A h.fields.l.length h.fields.c]] w fun e w' => e = .returned (.int .i64 (hdrM h)) ∧ Below w.heap.size w w' := by
  obtain ⟨nm, ⟨l, A0, c0⟩⟩ := h
  have HS : Hid (nm.size ≤ maxLen) := Lib.hid o.name
  have HN : Hid (∀ f ∈ l, f.name.size ≤ maxLen) := Lib.hid o.names
  have HR := Lib.hid (hdrM_eq ⟨nm, ⟨l, A0, c0⟩⟩)
  obtain ⟨W, hW, hw, HB, hp⟩ := box1 w #[.string nm, .slice A0 l.length c0] 61
  have HW := Lib.hid hw
  have HX := Lib.hid (o.fields.below hw (Nat.le_refl _))
  have HB0 := Lib.hid HB
  simp only at HR ⊢
  clear o hw
  by_cases h0 : l.length = 0
  · have h0' : ((l.length : Int) == 0) = true := by rw [beq_iff_eq]; omega
    have HR2 : Hid (hdrM ⟨nm, ⟨l, A0, c0⟩⟩ = if ident nm = false then 6 else 8) := Lib.hid (by rw [HR.out, if_pos h0])
    clear h0
    go_enter Tryz.func27, Tryz.ntmps27
    go_upto_region 1 with fail
    rw [← hW]
    clear hW
    go_wp2_with fail
    refine (risIdent_any nm _ HS.out).mono ?_
    rintro e w' ⟨rfl, rfl⟩
    cases h1 : identM nm.data.toList
    · have HR3 := Lib.hid (HR2.out.trans (if_pos (show ident nm = false from h1)))
      go_wp2
      go_ret
      exact ⟨by rw [HR3.out]; rfl, below_step HW.out HB⟩
    · have HR3 := Lib.hid (HR2.out.trans (if_neg (show ¬ ident nm = false by rw [show ident nm = true from h1]; simp)))
      go_wp2
      go_ret
      exact ⟨by rw [HR3.out]; rfl, below_step HW.out HB⟩
  have h0' : ((l.length : Int) == 0) = false := by rw [beq_eq_false_iff_ne]; omega
  obtain ⟨g, of, hA, hall⟩ := FieldD.allA HX.out (show 0 < l.length by omega)
  have HAL := Lib.hid hall
  simp only at hA
  subst hA
  go_enter Tryz.func27, Tryz.ntmps27
  go_upto_region 1 with fail
  rw [← hW]
  clear hW hall
  go_wp2_with fail
  refine (risIdent_any nm _ HS.out).mono ?_
  rintro e w' ⟨rfl, rfl⟩
  cases h1 : identM nm.data.toList
  · have HR3 := Lib.hid (HR.out.trans (if_pos (show ident nm = false from h1)))
    go_wp2
    go_ret
    exact ⟨by rw [HR3.out]; rfl, below_step HW.out HB⟩
  replace HR := Lib.hid (HR.out.trans ((if_neg (show ¬ ident nm = false by rw [show ident nm = true from h1]; simp)).trans (if_neg h0)))
  clear h0 h1
  by_cases h12 : 12 < l.length
  · have HR3 := Lib.hid (HR.out.trans (if_pos h12))
    go_wp2
    go_ret
    exact ⟨by rw [HR3.out]; rfl, below_step HW.out HB⟩
  replace HR := Lib.hid (HR.out.trans (if_neg h12))
  have h12' : l.length ≤ 12 := by omega
  clear h12
  go_wp2
  clear HB
  go_loopw [3, 4] (fun nv iv wr => ∃ (k : Nat) (n : Int), k ≤ l.length ∧ iv = .int .i64 k ∧ nv = .int .i64 n ∧ 0 ≤ n ∧ n ≤ 32 * (k : Int) ∧ Hid (widthSum (l.take k) = n) ∧ (∀ j, j < k → fldM l j = none) ∧ Below W.heap.size W wr) (fun _ i _ => l.length - (intOf i).toNat)
  case atStart => exact ⟨0, 0, Nat.zero_le _, rfl, rfl, by omega, by omega, Lib.hid (by simp [widthSum]), fun j h => absurd h (Nat.not_lt_zero _), HB0.out⟩
  case round =>
    obtain ⟨k, n, hk, rfl, rfl, hn0, hn1, HSum, hpre, HB⟩ := hrel
    have HPre := Lib.hid hpre
    clear hpre
    by_cases hlt : k < l.length
    · obtain ⟨d0, d1⟩ := HAL.out wr HB k hlt
      have HF := Lib.hid (fldM_at l k hlt)
      have HNk := Lib.hid (HN.out _ (List.getElem_mem hlt))
      have HSt : Hid (widthSum (l.take (k + 1)) = n + l[k].width) := Lib.hid (by rw [widthSum_step hlt, HSum.out])
      have HFx : Hid (∀ u, Below wr.heap.size wr u → _) := Lib.hid (fun u hb => findex_any nm ⟨l, some ⟨g, of, none⟩, c0⟩ k l[k].name u (HX.out.below (below_step HB hb) (Nat.le_refl _)) hlt rfl)
      generalize l[k] = y at *
      obtain ⟨yn, yw⟩ := y
      simp only at HF HNk d0 d1 HSt HFx
      refine Exists.elim (box1 wr #[.string yn, .int .i64 yw] 63) ?_
      rintro U ⟨hU, hu, hUU, hbx⟩
      have HU := Lib.hid (below_step HB hu)
      have HFy := Lib.hid (HFx.out U hu)
      go_upto_region 12 with fail
      rw [← hU]
      clear hU hu d0 d1 HB HFx
      have HB := hUU
      have hq := fun w' (h : Below U.heap.size U w') => hp w' (below_step HU.out h)
      clear hp hUU
      go_wp2_with fail
      refine HFy.out.mono ?_
      rintro e w2 ⟨j, rfl, hj, hjk, hbN⟩
      replace HB := below_step HB hbN
      have HJ := Lib.hid hj
      clear hbN hj HFy
      go_wp2_with fail
      refine (risIdent_any yn _ HNk.out).mono ?_
      rintro e w' ⟨rfl, rfl⟩
      cases h1 : identM yn.data.toList
      · have HE := Lib.hid (HF.out.trans (if_pos (show ident yn = false from h1)))
        have HR2 := Lib.hid (HR.out.trans (show _ = (6 : Int) by rw [firstE_some hlt HPre.out HE.out]))
        go_wp2
        go_ret
        exact ⟨by rw [HR2.out]; rfl, below_step HW.out (below_step HU.out HB)⟩
      have HF1 := Lib.hid (HF.out.trans (if_neg (show ¬ ident yn = false by rw [show ident yn = true from h1]; simp)))
      clear HF h1
      cases h2 : okW yw
      · have HE := Lib.hid (HF1.out.trans (if_pos h2))
        have HR2 := Lib.hid (HR.out.trans (show _ = (10 : Int) by rw [firstE_some hlt HPre.out HE.out]))
        have h3 : yw < 1 ∨ (1 ≤ yw ∧ 32 < yw) := by have := okW_not.1 h2; omega
        rcases h3 with h3 | ⟨h3, h4⟩
        all_goals
          go_wp2
          go_ret
          exact ⟨by rw [HR2.out]; rfl, below_step HW.out (below_step HU.out HB)⟩
      have HF2 := Lib.hid (HF1.out.trans (if_neg (by rw [h2]; simp)))
      clear HF1
      obtain ⟨yw1, yw2⟩ := okW_iff.1 h2
      clear h2
      by_cases hjl : j < k
      · have HE := Lib.hid (HF2.out.trans (if_pos (HJ.out.1 hjl)))
        have HR2 := Lib.hid (HR.out.trans (show _ = (7 : Int) by rw [firstE_some hlt HPre.out HE.out]))
        have hjl' : (j : Int) < (k : Int) := by omega
        clear hjl
        go_wp2
        go_ret
        exact ⟨by rw [HR2.out]; rfl, below_step HW.out (below_step HU.out HB)⟩
      · have HE := Lib.hid (HF2.out.trans (if_neg (fun e => hjl (HJ.out.2 e))))
        have hjl' : ¬ (j : Int) < (k : Int) := by omega
        have hwr : IntKind.i64.wrap (n + yw) = n + yw := IntWalk.i64_in _ (by omega)
        clear hjl
        go_wp2
        go_roundw
        case rel => exact ⟨k + 1, n + yw, by omega, by go_num, by go_num, by omega, by omega, HSt, firstE_step HPre.out HE.out, below_step HU.out HB⟩
        case measure => simp [intOf]; omega
    · have e : k = l.length := by omega
      have hpre := HPre.out
      rw [e] at hpre
      have HR2 := Lib.hid (HR.out.trans (show _ = (if Int.tmod n 8 ≠ 0 then (10 : Int) else 0) by
        have h := HSum.out
        rw [e, List.take_length] at h
        rw [firstE_none hpre, h]))
      clear e hpre HPre
      rw [Int.tmod_eq_emod_of_nonneg hn0] at HR2
      by_cases h8 : n % 8 = 0
      · have HR3 := Lib.hid (HR2.out.trans (if_neg (fun h => h h8)))
        have h8' : (n % 8 == 0) = true := beq_iff_eq.2 h8
        clear h8
        go_wp2
        go_ret
        exact ⟨by rw [HR3.out]; rfl, below_step HW.out HB⟩
      · have HR3 := Lib.hid (HR2.out.trans (if_pos h8))
        have h8' : (n % 8 == 0) = false := beq_eq_false_iff_ne.2 h8
        clear h8
        go_wp2
        go_ret
        exact ⟨by rw [HR3.out]; rfl, below_step HW.out HB⟩
end Go.Proofs.YtgfbikknkcaneaaGreat
namespace Go.Proofs.YtgfbikknkcaneaaGreat
open Go.RowKit

set_option maxHeartbeats 4000000 in
theorem rreg_any (r : RegD) (hn : r.name.size ≤ maxLen) (w : World) :
    Calls Tryz.prog 101 #[.agg #[.string r.name, .int .i64 r.width, .int .i64 r.size]] w fun e w' => e = .returned (.int .i64 (regM r)) ∧ Below w.heap.size w w' := by
  obtain ⟨nm, wd, sz⟩ := r
  have HS := Lib.hid hn
  have HR := Lib.hid (regM.eq_1 ⟨nm, wd, sz⟩)
  simp only at HR HS ⊢
  clear hn
  obtain ⟨W, hW, hw, HB, hp⟩ := box1 w #[.string nm, .int .i64 wd, .int .i64 sz] 65
  have HW := Lib.hid hw
  clear hw
  go_enter Tryz.func101, Tryz.ntmps101
  go_upto_region 1 with fail
  rw [← hW]
  clear hW
  go_wp2_with fail
  refine (risIdent_any nm _ HS.out).mono ?_
  rintro e w' ⟨rfl, rfl⟩
  cases h1 : identM nm.data.toList
  · have HR3 := Lib.hid (HR.out.trans (if_pos (show ident nm = false from h1)))
    go_wp2
    go_ret
    exact ⟨by rw [HR3.out]; rfl, below_step HW.out HB⟩
  have HR1 := Lib.hid (HR.out.trans (if_neg (show ¬ ident nm = false by rw [show ident nm = true from h1]; simp)))
  clear h1 HR
  by_cases k1 : wd < 1
  · have HR3 := Lib.hid (HR1.out.trans (if_pos (okW_not.2 (.inl k1))))
    go_wp2
    go_ret
    exact ⟨by rw [HR3.out]; rfl, below_step HW.out HB⟩
  by_cases k2 : 32 < wd
  · have HR3 := Lib.hid (HR1.out.trans (if_pos (okW_not.2 (.inr k2))))
    go_wp2
    go_ret
    exact ⟨by rw [HR3.out]; rfl, below_step HW.out HB⟩
  have HR2 := Lib.hid (HR1.out.trans (if_neg (by rw [okW_iff.2 ⟨by omega, by omega⟩]; simp)))
  clear HR1
  by_cases k3 : sz < 1
  · have HR3 := Lib.hid (HR2.out.trans (if_pos (.inl k3)))
    go_wp2
    go_ret
    exact ⟨by rw [HR3.out]; rfl, below_step HW.out HB⟩
  by_cases k4 : 64 < sz
  · have HR3 := Lib.hid (HR2.out.trans (if_pos (.inr k4)))
    go_wp2
    go_ret
    exact ⟨by rw [HR3.out]; rfl, below_step HW.out HB⟩
  have HR3 := Lib.hid (HR2.out.trans (if_neg (fun h => h.elim k3 k4)))
  go_wp2
  go_ret
  exact ⟨by rw [HR3.out]; rfl, below_step HW.out HB⟩

/-- what an inner loop over earlier names tells -/
theorem dup_tells {α : Type} {f : α → ByteArray} {l : List α} {i : Nat} (hi : i < l.length) :
    (∀ j (hj : j < l.length), j < i → f l[j] = f l[i] → dupB (l.map f) i = true) ∧ ((∀ j (hj : j < l.length), j < i → f l[j] ≠ f l[i]) → dupB (l.map f) i = false) := by
  have hi' : i < (l.map f).length := by rw [List.length_map]; exact hi
  constructor
  · intro j hj hji e
    exact (dupB_iff hi').2 ⟨j, by rw [List.length_map]; exact hj, hji, by simpa using e⟩
  · intro h
    rw [← Bool.not_eq_true, dupB_iff hi']
    rintro ⟨k, hk, hki, e⟩
    rw [List.length_map] at hk
    exact h k hk hki (by simpa using e)
/-- the first error of a list of fields -/
def fldsM (l : List FieldD) : Int := match firstE l.length (fldM l) with
  | some e => e
  | none => 0
theorem fldsM_some {l : List FieldD} {r : Int} {i : Nat} (hi : i < l.length) (h : ∀ j, j < i → fldM l j = none) (hr : fldM l i = some r) : fldsM l = r := by
  rw [fldsM, firstE_some hi h hr]
theorem fldsM_none {l : List FieldD} (h : ∀ j, j < l.length → fldM l j = none) : fldsM l = 0 := by
  rw [fldsM, firstE_none h]
theorem pre_step {α : Type} {f : Nat → Option α} {i : Nat} (h : ∀ j, j < i → f j = none) (hi : f i = none) : ∀ j, j < i + 1 → f j = none := fun j hj => by
  rcases Nat.lt_succ_iff_lt_or_eq.1 hj with h1 | rfl
  · exact h j h1
  · exact hi
theorem pre_ne {α : Type} {f : Nat → α → Prop} {l : List α} {k : Nat} (h : ∀ j (hj : j < l.length), j < k → f j l[j]) {hk : k < l.length} (hn : f k l[k]) : ∀ j (hj : j < l.length), j < k + 1 → f j l[j] := fun j hj hjk => by
  rcases Nat.lt_succ_iff_lt_or_eq.1 hjk with h1 | rfl
  · exact h j hj h1
  · exact hn
set_option maxRecDepth 100000 in
set_option maxHeartbeats 8000000 in
theorem rparams_any (x : L FieldD) (w : World) (h : LOk w 2 FieldD.cells x) (hn : ∀ f ∈ x.l, f.name.size ≤ maxLen) :
    Calls Tryz.prog 151 #[.slice x.A x.l.length x.c] w fun e w' => e = .returned (.int .i64 (fldsM x.l)) ∧ Below w.heap.size w w' := by
  obtain ⟨l, A0, c0⟩ := x
  have HX := Lib.hid h
  have HN := Lib.hid hn
  have hmx : l.length ≤ 9223372036854775807 := h.1
  clear h hn
  simp only at *
  go_enter Tryz.func151, Tryz.ntmps151
  go_wp2
  go_loopw [3] (fun iv wr => ∃ i : Nat, i ≤ l.length ∧ iv = .int .i64 i ∧ (∀ j, j < i → fldM l j = none) ∧ Below w.heap.size w wr) (fun i _ => l.length - (intOf i).toNat)
  case atStart => exact ⟨0, Nat.zero_le _, rfl, fun j hj => absurd hj (Nat.not_lt_zero _), Below.refl _ _⟩
  case round =>
  obtain ⟨i, hi, rfl, hpre, HB⟩ := hrel
  have HPre := Lib.hid hpre
  clear hpre
  by_cases hlt : i < l.length
  · obtain ⟨g, of, hA, hall⟩ := FieldD.allA HX.out (show 0 < l.length by omega)
    simp only at hA hall
    subst hA
    have HAL := Lib.hid hall
    have HALi := Lib.hid (fun w' h => hall w' h i hlt)
    have HF := Lib.hid (fldM_at l i hlt)
    have HNk := Lib.hid (HN.out _ (List.getElem_mem hlt))
    have HD := Lib.hid (dup_tells (f := FieldD.name) hlt)
    clear hall
    generalize l[i] = y at *
    obtain ⟨yn, yw⟩ := y
    simp only at HALi HF HNk HD
    obtain ⟨d0, d1⟩ := HALi.out wr HB
    go_wp2_with fail
    refine (risIdent_any yn _ HNk.out).mono ?_
    rintro e w' ⟨rfl, rfl⟩
    cases h1 : identM yn.data.toList
    · have HE := Lib.hid (HF.out.trans (if_pos (show ident yn = false from h1)))
      have HR := Lib.hid (fldsM_some hlt HPre.out HE.out)
      go_wp2
      go_ret
      exact ⟨by rw [HR.out]; rfl, HB⟩
    have HF1 := Lib.hid (HF.out.trans (if_neg (show ¬ ident yn = false by rw [show ident yn = true from h1]; simp)))
    clear HF h1
    by_cases k1 : yw < 1
    · have HR := Lib.hid (fldsM_some hlt HPre.out (HF1.out.trans (if_pos (okW_not.2 (.inl k1)))))
      go_wp2
      go_ret
      exact ⟨by rw [HR.out]; rfl, HB⟩
    by_cases k2 : 32 < yw
    · have HR := Lib.hid (fldsM_some hlt HPre.out (HF1.out.trans (if_pos (okW_not.2 (.inr k2)))))
      go_wp2
      go_ret
      exact ⟨by rw [HR.out]; rfl, HB⟩
    have HF2 := Lib.hid (HF1.out.trans (if_neg (by rw [okW_iff.2 ⟨by omega, by omega⟩]; simp)))
    clear HF1
    go_wp2
    have HB0 := Lib.hid HB
    clear HB d0 d1
    go_loopw [4] (fun iv wr => ∃ k : Nat, k ≤ i ∧ iv = .int .i64 k ∧ Hid (∀ j (hj : j < l.length), j < k → l[j].name ≠ yn) ∧ Below w.heap.size w wr) (fun k _ => i - (intOf k).toNat)
    case atStart => exact ⟨0, Nat.zero_le _, rfl, Lib.hid (fun j _ hj => absurd hj (Nat.not_lt_zero _)), HB0.out⟩
    case round =>
    clear HB0
    obtain ⟨k, hk, rfl, HK, HB⟩ := hrel
    obtain ⟨d0, d1⟩ := HALi.out _ HB
    by_cases hki : k < i
    · have hkl : k < l.length := by omega
      obtain ⟨e0, e1⟩ := HAL.out _ HB k hkl
      have HY : Hid (l[k].name = yn → dupB (l.map FieldD.name) i = true) := Lib.hid (fun e => HD.out.1 k hkl hki e)
      have HZ : Hid (l[k].name ≠ yn → ∀ j (hj : j < l.length), j < k + 1 → l[j].name ≠ yn) := Lib.hid (fun hne => pre_ne (f := fun _ (a : FieldD) => a.name ≠ yn) HK.out hne)
      generalize l[k].name = t at *
      by_cases ht : t = yn
      · have HR := Lib.hid (fldsM_some hlt HPre.out (HF2.out.trans (if_pos (HY.out ht))))
        have ht' := toList_true ht
        clear ht HY HZ
        go_wp2
        go_quiet (fail)
        go_wp2
        go_ret
        exact ⟨by rw [HR.out]; rfl, below_drewN HB _⟩
      · have HZ2 := Lib.hid (HZ.out ht)
        have ht' := toList_false ht
        clear ht HY HZ
        go_wp2
        go_quiet (fail)
        go_wp2
        go_roundw
        case rel => exact ⟨k + 1, by omega, by go_num, HZ2, below_drewN HB _⟩
        case measure => simp [intOf]; omega
    · have e : k = i := by omega
      subst e
      have HE := Lib.hid (HF2.out.trans (if_neg (by rw [HD.out.2 HK.out]; simp)))
      have HP2 := Lib.hid (pre_step HPre.out HE.out)
      go_wp2
      go_roundw
      case rel => exact ⟨k + 1, by omega, by go_num, HP2.out, HB⟩
      case measure => simp [intOf]; omega
  · have e : i = l.length := by omega
    subst e
    have HR := Lib.hid (fldsM_none HPre.out)
    go_wp2
    go_ret
    exact ⟨by rw [HR.out]; rfl, HB⟩
set_option maxRecDepth 100000 in
set_option maxHeartbeats 2000000 in
theorem rsized_any (p : ProgD) (ps : L FieldD) (x : L NodeD) (n : Int) (w : World) (o : ProgOk w p) (hps : LOk w 2 FieldD.cells ps) (hx : LOk w 3 NodeD.cells x) :
    Calls Tryz.prog 182 #[.slice x.A x.l.length x.c, .agg (scopeCells p ps), .int .i64 n] w fun e w' => e = .returned (.int .i64 (sizedM p ps.l x.l n)) ∧ Below w.heap.size w w' := by
  have HO := Lib.hid o
  have HP := Lib.hid hps
  have HX := Lib.hid hx
  clear o hps hx
  obtain ⟨W, hW, hw, HB, hp⟩ := box1 w (scopeCells p ps) 182
  have HW := Lib.hid hw
  have HR := Lib.hid (sizedM.eq_1 p ps.l x.l n)
  clear hw
  go_enter Tryz.func182, Tryz.ntmps182
  go_upto_region 1 with fail
  rw [← hW]
  clear hW
  go_wp2_with fail
  refine (rexprCheck_any p ps x _ (HO.out.below (below_step HW.out (by first | exact HB | exact below_alloc HB _ | exact below_alloc (below_alloc HB _) _ | exact below_alloc (below_alloc (below_alloc HB _) _) _))) (HP.out.below (below_step HW.out (by first | exact HB | exact below_alloc HB _ | exact below_alloc (below_alloc HB _) _ | exact below_alloc (below_alloc (below_alloc HB _) _) _)) (Nat.le_refl _)) (HX.out.below (below_step HW.out (by first | exact HB | exact below_alloc HB _ | exact below_alloc (below_alloc HB _) _ | exact below_alloc (below_alloc (below_alloc HB _) _) _)) (Nat.le_refl _))).mono ?_
  rintro e w1 ⟨rfl, hbN⟩
  replace HB := below_step (by first | exact HB | exact below_alloc HB _ | exact below_alloc (below_alloc HB _) _ | exact below_alloc (below_alloc (below_alloc HB _) _) _) hbN
  clear hbN
  generalize exprM p ps.l x.l = r at *
  obtain ⟨a, c⟩ := r
  simp only at HR
  by_cases k1 : c = 0
  · subst k1
    by_cases k2 : a = n
    · have HR2 : Hid (sizedM p ps.l x.l n = 0) := Lib.hid (by rw [HR.out]; simp [k2])
      subst k2
      go_wp2
      go_ret
      exact ⟨by rw [HR2.out]; rfl, below_step HW.out HB⟩
    · have HR2 : Hid (sizedM p ps.l x.l n = 10) := Lib.hid (by rw [HR.out]; simp [k2])
      have k2' : (a == n) = false := beq_eq_false_iff_ne.2 k2
      clear k2
      go_wp2
      go_ret
      exact ⟨by rw [HR2.out]; rfl, below_step HW.out HB⟩
  · have HR2 : Hid (sizedM p ps.l x.l n = c) := Lib.hid (by rw [HR.out]; simp [k1])
    have k1' : (c == 0) = false := beq_eq_false_iff_ne.2 k1
    clear k1
    go_wp2
    go_ret
    exact ⟨by rw [HR2.out]; rfl, below_step HW.out HB⟩
end Go.Proofs.YtgfbikknkcaneaaGreat
namespace Go.Proofs.YtgfbikknkcaneaaGreat
open Go.RowKit

theorem rdecl_any (p : ProgD) (h f : Int) (w : World) (o : ProgOk w p) :
    Calls Tryz.prog 181 #[.agg (progCells p), .agg #[.int .i64 h, .int .i64 f]] w fun e w' => e = .returned (widthV (declM p h f)) ∧ Below w.heap.size w w' := by
  refine (rdeclared_any p h f w o).mono ?_
  rintro e w' ⟨rfl, hb⟩
  refine ⟨?_, hb⟩
  unfold declM
  cases declF p h f <;> rfl
set_option maxRecDepth 100000 in
set_option maxHeartbeats 8000000 in
theorem rst_assign (p : ProgD) (ps : L FieldD) (kind dh df rg hd : Int) (ix vl : L NodeD) (w : World) (o : ProgOk w p) (hps : LOk w 2 FieldD.cells ps) (os : StmtOk w ⟨kind, dh, df, rg, hd, ix, vl⟩) (hk : kind = 1) :
    Calls Tryz.prog 152 #[.agg (progCells p), .agg (stmtCells ⟨kind, dh, df, rg, hd, ix, vl⟩), .agg (scopeCells p ps)] w fun e w' => e = .returned (.int .i64 (stmtM p ps.l ⟨kind, dh, df, rg, hd, ix, vl⟩)) ∧ Below w.heap.size w w' := by
  have HO := Lib.hid o
  have HP := Lib.hid hps
  have HX := Lib.hid os.index
  have HV := Lib.hid os.value
  clear o hps os
  obtain ⟨W, hW, hw, HB, hp⟩ := box3 w (progCells p) 31 (stmtCells ⟨kind, dh, df, rg, hd, ix, vl⟩) 129 (scopeCells p ps) 182
  have HW := Lib.hid hw
  clear hw
  have HR := Lib.hid (stmtM.eq_1 p ps.l ⟨kind, dh, df, rg, hd, ix, vl⟩)
  simp only at HX HV
  subst hk
  replace HR := Lib.hid (HR.out.trans (if_pos rfl))
  have hr : rg < 0 ∨ (0 ≤ rg ∧ rg < p.registers.l.length) ∨ (0 ≤ rg ∧ ¬ rg < (p.registers.l.length : Int)) := by omega
  rcases hm : declM p dh df with _ | wd
  · replace HR : Hid (stmtM p ps.l ⟨1, dh, df, rg, hd, ix, vl⟩ = 8) := Lib.hid (by rw [HR.out]; simp only [hm])
    rcases hr with hr | ⟨hr, hr2⟩ | ⟨hr, hr2⟩
    all_goals
      go_enter Tryz.func152, Tryz.ntmps152
      go_upto_region 1 with fail
      rw [← hW]
      clear hW
      go_wp2_with fail
      refine (rdecl_any p dh df _ (HO.out.below (below_step HW.out (by first | exact HB | exact below_alloc HB _ | exact below_alloc (below_alloc HB _) _ | exact below_alloc (below_alloc (below_alloc HB _) _) _)))).mono ?_
      rintro e w1 ⟨rfl, hbN⟩
      replace HB := below_step (by first | exact HB | exact below_alloc HB _ | exact below_alloc (below_alloc HB _) _ | exact below_alloc (below_alloc (below_alloc HB _) _) _) hbN
      clear hbN
      rw [hm]
      simp only [widthV, Option.getD_none, Option.isSome_none]
      go_wp2
      go_ret
      exact ⟨by rw [HR.out]; rfl, below_step HW.out HB⟩
  · replace HR : Hid (stmtM p ps.l ⟨1, dh, df, rg, hd, ix, vl⟩ = sizedM p ps.l vl.l wd) := Lib.hid (by rw [HR.out]; simp only [hm])
    rcases hr with hr | ⟨hr, hr2⟩ | ⟨hr, hr2⟩
    all_goals
      go_enter Tryz.func152, Tryz.ntmps152
      go_upto_region 1 with fail
      rw [← hW]
      clear hW
      go_wp2_with fail
      refine (rdecl_any p dh df _ (HO.out.below (below_step HW.out (by first | exact HB | exact below_alloc HB _ | exact below_alloc (below_alloc HB _) _ | exact below_alloc (below_alloc (below_alloc HB _) _) _)))).mono ?_
      rintro e w1 ⟨rfl, hbN⟩
      replace HB := below_step (by first | exact HB | exact below_alloc HB _ | exact below_alloc (below_alloc HB _) _ | exact below_alloc (below_alloc (below_alloc HB _) _) _) hbN
      clear hbN
      rw [hm]
      simp only [widthV, Option.getD_some, Option.isSome_some]
      go_wp2_with fail
      refine (rsized_any p ps vl wd _ (HO.out.below (below_step HW.out (by first | exact HB | exact below_alloc HB _ | exact below_alloc (below_alloc HB _) _ | exact below_alloc (below_alloc (below_alloc HB _) _) _))) (HP.out.below (below_step HW.out (by first | exact HB | exact below_alloc HB _ | exact below_alloc (below_alloc HB _) _ | exact below_alloc (below_alloc (below_alloc HB _) _) _)) (Nat.le_refl _)) (HV.out.below (below_step HW.out (by first | exact HB | exact below_alloc HB _ | exact below_alloc (below_alloc HB _) _ | exact below_alloc (below_alloc (below_alloc HB _) _) _)) (Nat.le_refl _))).mono ?_
      rintro e w2 ⟨rfl, hbN⟩
      replace HB := below_step (by first | exact HB | exact below_alloc HB _ | exact below_alloc (below_alloc HB _) _ | exact below_alloc (below_alloc (below_alloc HB _) _) _) hbN
      clear hbN
      go_wp2
      go_ret
      exact ⟨by rw [HR.out]; rfl, below_step HW.out HB⟩
set_option maxRecDepth 100000 in
set_option maxHeartbeats 8000000 in
theorem rst_hdr (p : ProgD) (ps : L FieldD) (kind dh df rg hd : Int) (ix vl : L NodeD) (w : World) (o : ProgOk w p) (hps : LOk w 2 FieldD.cells ps) (os : StmtOk w ⟨kind, dh, df, rg, hd, ix, vl⟩) (hk : kind = 2 ∨ kind = 3) :
    Calls Tryz.prog 152 #[.agg (progCells p), .agg (stmtCells ⟨kind, dh, df, rg, hd, ix, vl⟩), .agg (scopeCells p ps)] w fun e w' => e = .returned (.int .i64 (stmtM p ps.l ⟨kind, dh, df, rg, hd, ix, vl⟩)) ∧ Below w.heap.size w w' := by
  have HO := Lib.hid o
  have HP := Lib.hid hps
  have HX := Lib.hid os.index
  have HV := Lib.hid os.value
  clear o hps os
  obtain ⟨W, hW, hw, HB, hp⟩ := box3 w (progCells p) 31 (stmtCells ⟨kind, dh, df, rg, hd, ix, vl⟩) 129 (scopeCells p ps) 182
  have HW := Lib.hid hw
  clear hw
  have HR := Lib.hid (stmtM.eq_1 p ps.l ⟨kind, dh, df, rg, hd, ix, vl⟩)
  simp only at HX HV
  have hr : rg < 0 ∨ (0 ≤ rg ∧ rg < p.registers.l.length) ∨ (0 ≤ rg ∧ ¬ rg < (p.registers.l.length : Int)) := by omega
  replace HR := Lib.hid (HR.out.trans ((if_neg (show ¬ kind = 1 by omega)).trans (if_pos hk)))
  have hh : hd < 0 ∨ (0 ≤ hd ∧ (p.headers.l.length : Int) ≤ hd) ∨ (0 ≤ hd ∧ hd < p.headers.l.length) := by omega
  rcases hh with hh | ⟨hh, hh2⟩ | ⟨hh, hh2⟩
  all_goals
    first
      | replace HR := Lib.hid (HR.out.trans (if_pos (Or.inl hh)))
      | replace HR := Lib.hid (HR.out.trans (if_pos (Or.inr hh2)))
      | replace HR := Lib.hid (HR.out.trans (if_neg (show ¬ (hd < 0 ∨ (p.headers.l.length : Int) ≤ hd) by omega)))
    rcases hk with rfl | rfl
    all_goals
      rcases hr with hr | ⟨hr, hr2⟩ | ⟨hr, hr2⟩
      all_goals
        go_enter Tryz.func152, Tryz.ntmps152
        go_upto_region 1 with fail
        rw [← hW]
        clear hW
        go_wp2_with fail
        refine (rdecl_any p dh df _ (HO.out.below (below_step HW.out (by first | exact HB | exact below_alloc HB _ | exact below_alloc (below_alloc HB _) _ | exact below_alloc (below_alloc (below_alloc HB _) _) _)))).mono ?_
        rintro e w1 ⟨rfl, hbN⟩
        replace HB := below_step (by first | exact HB | exact below_alloc HB _ | exact below_alloc (below_alloc HB _) _ | exact below_alloc (below_alloc (below_alloc HB _) _) _) hbN
        clear hbN
        simp only [widthV]
        go_wp2
        go_ret
        exact ⟨by rw [HR.out]; rfl, below_step HW.out HB⟩
set_option maxRecDepth 100000 in
set_option maxHeartbeats 8000000 in
theorem rst_other (p : ProgD) (ps : L FieldD) (kind dh df rg hd : Int) (ix vl : L NodeD) (w : World) (o : ProgOk w p) (hps : LOk w 2 FieldD.cells ps) (os : StmtOk w ⟨kind, dh, df, rg, hd, ix, vl⟩) (h1 : kind ≠ 1) (h2 : kind ≠ 2) (h3 : kind ≠ 3) (h4 : kind ≠ 4) (h5 : kind ≠ 5) :
    Calls Tryz.prog 152 #[.agg (progCells p), .agg (stmtCells ⟨kind, dh, df, rg, hd, ix, vl⟩), .agg (scopeCells p ps)] w fun e w' => e = .returned (.int .i64 (stmtM p ps.l ⟨kind, dh, df, rg, hd, ix, vl⟩)) ∧ Below w.heap.size w w' := by
  have HO := Lib.hid o
  have HP := Lib.hid hps
  have HX := Lib.hid os.index
  have HV := Lib.hid os.value
  clear o hps os
  obtain ⟨W, hW, hw, HB, hp⟩ := box3 w (progCells p) 31 (stmtCells ⟨kind, dh, df, rg, hd, ix, vl⟩) 129 (scopeCells p ps) 182
  have HW := Lib.hid hw
  clear hw
  have HR := Lib.hid (stmtM.eq_1 p ps.l ⟨kind, dh, df, rg, hd, ix, vl⟩)
  simp only at HX HV
  have hr : rg < 0 ∨ (0 ≤ rg ∧ rg < p.registers.l.length) ∨ (0 ≤ rg ∧ ¬ rg < (p.registers.l.length : Int)) := by omega
  replace HR := Lib.hid (HR.out.trans ((if_neg h1).trans ((if_neg (fun h => h.elim h2 h3)).trans ((if_neg h4).trans (if_neg h5)))))
  have k1 : (kind == 1) = false := beq_eq_false_iff_ne.2 h1
  have k2 : (kind == 2) = false := beq_eq_false_iff_ne.2 h2
  have k3 : (kind == 3) = false := beq_eq_false_iff_ne.2 h3
  have k4 : (kind == 4) = false := beq_eq_false_iff_ne.2 h4
  have k5 : (kind == 5) = false := beq_eq_false_iff_ne.2 h5
  clear h1 h2 h3 h4 h5
  rcases hr with hr | ⟨hr, hr2⟩ | ⟨hr, hr2⟩
  all_goals
    go_enter Tryz.func152, Tryz.ntmps152
    go_upto_region 1 with fail
    rw [← hW]
    clear hW
    go_wp2_with fail
    refine (rdecl_any p dh df _ (HO.out.below (below_step HW.out (by first | exact HB | exact below_alloc HB _ | exact below_alloc (below_alloc HB _) _ | exact below_alloc (below_alloc (below_alloc HB _) _) _)))).mono ?_
    rintro e w1 ⟨rfl, hbN⟩
    replace HB := below_step (by first | exact HB | exact below_alloc HB _ | exact below_alloc (below_alloc HB _) _ | exact below_alloc (below_alloc (below_alloc HB _) _) _) hbN
    clear hbN
    simp only [widthV]
    go_wp2
    go_ret
    exact ⟨by rw [HR.out]; rfl, below_step HW.out HB⟩
set_option maxRecDepth 100000 in
set_option maxHeartbeats 8000000 in
theorem rst_read (p : ProgD) (ps : L FieldD) (kind dh df rg hd : Int) (ix vl : L NodeD) (w : World) (o : ProgOk w p) (hps : LOk w 2 FieldD.cells ps) (os : StmtOk w ⟨kind, dh, df, rg, hd, ix, vl⟩) (hk : kind = 4) :
    Calls Tryz.prog 152 #[.agg (progCells p), .agg (stmtCells ⟨kind, dh, df, rg, hd, ix, vl⟩), .agg (scopeCells p ps)] w fun e w' => e = .returned (.int .i64 (stmtM p ps.l ⟨kind, dh, df, rg, hd, ix, vl⟩)) ∧ Below w.heap.size w w' := by
  have HO := Lib.hid o
  have HP := Lib.hid hps
  have HX := Lib.hid os.index
  have HV := Lib.hid os.value
  clear o hps os
  obtain ⟨W, hW, hw, HB, hp⟩ := box3 w (progCells p) 31 (stmtCells ⟨kind, dh, df, rg, hd, ix, vl⟩) 129 (scopeCells p ps) 182
  have HW := Lib.hid hw
  clear hw
  have HR := Lib.hid (stmtM.eq_1 p ps.l ⟨kind, dh, df, rg, hd, ix, vl⟩)
  simp only at HX HV
  subst hk
  replace HR := Lib.hid (HR.out.trans ((if_neg (show ¬ (4 : Int) = 1 by decide)).trans ((if_neg (show ¬ ((4 : Int) = 2 ∨ (4 : Int) = 3) by decide)).trans (if_pos rfl))))
  rcases regAt_cases p rg with ⟨hr, hn⟩ | ⟨k, hk, rfl, hn⟩
  · replace HR : Hid (stmtM p ps.l ⟨4, dh, df, rg, hd, ix, vl⟩ = 8) := Lib.hid (by rw [HR.out]; simp only [hn])
    clear hn
    have hr : rg < 0 ∨ (0 ≤ rg ∧ decide (rg < (p.registers.l.length : Int)) = false) := by rw [decide_eq_false_iff_not]; omega
    rcases hr with hr | ⟨hr, hr2⟩
    all_goals
      go_enter Tryz.func152, Tryz.ntmps152
      go_upto_region 1 with fail
      rw [← hW]
      clear hW
      go_wp2_with fail
      refine (rdecl_any p dh df _ (HO.out.below (below_step HW.out (by first | exact HB | exact below_alloc HB _ | exact below_alloc (below_alloc HB _) _ | exact below_alloc (below_alloc (below_alloc HB _) _) _)))).mono ?_
      rintro e w1 ⟨rfl, hbN⟩
      replace HB := below_step (by first | exact HB | exact below_alloc HB _ | exact below_alloc (below_alloc HB _) _ | exact below_alloc (below_alloc (below_alloc HB _) _) _) hbN
      clear hbN
      rcases hm : declM p dh df with _ | wd
      all_goals
        simp only [widthV, Option.getD_none, Option.isSome_none, Option.getD_some, Option.isSome_some]
        go_wp2
        go_ret
        exact ⟨by rw [HR.out]; rfl, below_step HW.out HB⟩
  rcases hm : declM p dh df with _ | wd
  · replace HR : Hid (stmtM p ps.l ⟨4, dh, df, k, hd, ix, vl⟩ = 8) := Lib.hid (by rw [HR.out]; simp only [hn, hm])
    go_enter Tryz.func152, Tryz.ntmps152
    go_upto_region 1 with fail
    rw [← hW]
    clear hW
    go_wp2_with fail
    refine (rdecl_any p dh df _ (HO.out.below (below_step HW.out (by first | exact HB | exact below_alloc HB _ | exact below_alloc (below_alloc HB _) _ | exact below_alloc (below_alloc (below_alloc HB _) _) _)))).mono ?_
    rintro e w1 ⟨rfl, hbN⟩
    replace HB := below_step (by first | exact HB | exact below_alloc HB _ | exact below_alloc (below_alloc HB _) _ | exact below_alloc (below_alloc (below_alloc HB _) _) _) hbN
    clear hbN
    rw [hm]
    simp only [widthV, Option.getD_none, Option.isSome_none]
    go_wp2
    go_ret
    exact ⟨by rw [HR.out]; rfl, below_step HW.out HB⟩
  obtain ⟨g, of, hA, hq⟩ := RegD.atA (HO.out.registers.below HW.out (Nat.le_refl _)) hk
  have HAA := Lib.hid hA
  clear hA
  replace HR : Hid (stmtM p ps.l ⟨4, dh, df, k, hd, ix, vl⟩ = if (exprM p ps.l ix.l).2 ≠ 0 then (exprM p ps.l ix.l).2 else if wd ≠ p.registers.l[k].width then 10 else 0) := Lib.hid (by rw [HR.out]; simp only [hn, hm])
  clear hn
  generalize p.registers.l[k] = y at *
  obtain ⟨yn, yw, ys⟩ := y
  simp only at HR hq
  have hbad : Hid (∀ r : Int × Int, r.2 ≠ 0 → exprM p ps.l ix.l = r → stmtM p ps.l ⟨4, dh, df, k, hd, ix, vl⟩ = r.2) := Lib.hid (by
    intro r h1 h2
    rw [HR.out, h2, if_pos h1])
  go_enter Tryz.func152, Tryz.ntmps152
  go_upto_region 1 with fail
  rw [← hW]
  clear hW
  go_wp2_with fail
  refine (rdecl_any p dh df _ (HO.out.below (below_step HW.out (by first | exact HB | exact below_alloc HB _ | exact below_alloc (below_alloc HB _) _ | exact below_alloc (below_alloc (below_alloc HB _) _) _)))).mono ?_
  rintro e w1 ⟨rfl, hbN⟩
  replace HB := below_step (by first | exact HB | exact below_alloc HB _ | exact below_alloc (below_alloc HB _) _ | exact below_alloc (below_alloc (below_alloc HB _) _) _) hbN
  clear hbN
  rw [hm]
  simp only [widthV, Option.getD_some, Option.isSome_some]
  go_wp2_with fail
  refine (rexprCheck_any p ps ix _ (HO.out.below (below_step HW.out (by first | exact HB | exact below_alloc HB _ | exact below_alloc (below_alloc HB _) _ | exact below_alloc (below_alloc (below_alloc HB _) _) _))) (HP.out.below (below_step HW.out (by first | exact HB | exact below_alloc HB _ | exact below_alloc (below_alloc HB _) _ | exact below_alloc (below_alloc (below_alloc HB _) _) _)) (Nat.le_refl _)) (HX.out.below (below_step HW.out (by first | exact HB | exact below_alloc HB _ | exact below_alloc (below_alloc HB _) _ | exact below_alloc (below_alloc (below_alloc HB _) _) _)) (Nat.le_refl _))).mono ?_
  rintro e w2 ⟨rfl, hbN⟩
  replace HB := below_step (by first | exact HB | exact below_alloc HB _ | exact below_alloc (below_alloc HB _) _ | exact below_alloc (below_alloc (below_alloc HB _) _) _) hbN
  clear hbN
  generalize hr : exprM p ps.l ix.l = r at *
  obtain ⟨a, c⟩ := r
  simp only at HR
  by_cases k5 : c = 0
  case neg =>
    have k5' : (c == 0) = false := beq_eq_false_iff_ne.2 k5
    have HR2 := Lib.hid (hbad.out _ k5 rfl)
    go_wp2
    go_ret
    exact ⟨by rw [HR2.out]; rfl, below_step HW.out HB⟩
  subst k5
  have hp2 := fun w' h => hp w' (below_step HB h)
  have hq2 := fun w' h => hq w' (below_step HB h)
  have HVV := Lib.hid HB
  have H0 := Lib.hid (Below.refl w2.heap.size w2)
  clear HB hq hp hbad
  have hp3 := hp2 w2 H0.out
  have hq3 := hq2 w2 H0.out
  simp only [progCells, HAA.out] at hp3
  by_cases k6 : wd = yw
  · subst k6
    replace HR := Lib.hid (HR.out.trans (by simp : _ = (0 : Int)))
    go_wp2
    go_ret
    exact ⟨by rw [HR.out]; rfl, below_step HW.out HVV.out⟩
  · have k6' : (wd == yw) = false := beq_eq_false_iff_ne.2 k6
    replace HR := Lib.hid (HR.out.trans (by simp [k6] : _ = (10 : Int)))
    go_wp2
    go_ret
    exact ⟨by rw [HR.out]; rfl, below_step HW.out HVV.out⟩
set_option maxRecDepth 100000 in
set_option maxHeartbeats 8000000 in
theorem rst_write (p : ProgD) (ps : L FieldD) (kind dh df rg hd : Int) (ix vl : L NodeD) (w : World) (o : ProgOk w p) (hps : LOk w 2 FieldD.cells ps) (os : StmtOk w ⟨kind, dh, df, rg, hd, ix, vl⟩) (hk : kind = 5) :
    Calls Tryz.prog 152 #[.agg (progCells p), .agg (stmtCells ⟨kind, dh, df, rg, hd, ix, vl⟩), .agg (scopeCells p ps)] w fun e w' => e = .returned (.int .i64 (stmtM p ps.l ⟨kind, dh, df, rg, hd, ix, vl⟩)) ∧ Below w.heap.size w w' := by
  have HO := Lib.hid o
  have HP := Lib.hid hps
  have HX := Lib.hid os.index
  have HV := Lib.hid os.value
  clear o hps os
  obtain ⟨W, hW, hw, HB, hp⟩ := box3 w (progCells p) 31 (stmtCells ⟨kind, dh, df, rg, hd, ix, vl⟩) 129 (scopeCells p ps) 182
  have HW := Lib.hid hw
  clear hw
  have HR := Lib.hid (stmtM.eq_1 p ps.l ⟨kind, dh, df, rg, hd, ix, vl⟩)
  simp only at HX HV
  subst hk
  replace HR := Lib.hid (HR.out.trans ((if_neg (show ¬ (5 : Int) = 1 by decide)).trans ((if_neg (show ¬ ((5 : Int) = 2 ∨ (5 : Int) = 3) by decide)).trans ((if_neg (show ¬ (5 : Int) = 4 by decide)).trans (if_pos rfl)))))
  rcases regAt_cases p rg with ⟨hr, hn⟩ | ⟨k, hk, rfl, hn⟩
  · replace HR : Hid (stmtM p ps.l ⟨5, dh, df, rg, hd, ix, vl⟩ = 8) := Lib.hid (by rw [HR.out]; simp only [hn])
    clear hn
    have hr : rg < 0 ∨ (0 ≤ rg ∧ decide (rg < (p.registers.l.length : Int)) = false) := by rw [decide_eq_false_iff_not]; omega
    rcases hr with hr | ⟨hr, hr2⟩
    all_goals
      go_enter Tryz.func152, Tryz.ntmps152
      go_upto_region 1 with fail
      rw [← hW]
      clear hW
      go_wp2_with fail
      refine (rdecl_any p dh df _ (HO.out.below (below_step HW.out (by first | exact HB | exact below_alloc HB _ | exact below_alloc (below_alloc HB _) _ | exact below_alloc (below_alloc (below_alloc HB _) _) _)))).mono ?_
      rintro e w1 ⟨rfl, hbN⟩
      replace HB := below_step (by first | exact HB | exact below_alloc HB _ | exact below_alloc (below_alloc HB _) _ | exact below_alloc (below_alloc (below_alloc HB _) _) _) hbN
      clear hbN
      simp only [widthV]
      go_wp2
      go_ret
      exact ⟨by rw [HR.out]; rfl, below_step HW.out HB⟩
  obtain ⟨g, of, hA, hq⟩ := RegD.atA (HO.out.registers.below HW.out (Nat.le_refl _)) hk
  have HAA := Lib.hid hA
  clear hA
  replace HR : Hid (stmtM p ps.l ⟨5, dh, df, k, hd, ix, vl⟩ = if (exprM p ps.l ix.l).2 ≠ 0 then (exprM p ps.l ix.l).2 else sizedM p ps.l vl.l p.registers.l[k].width) := Lib.hid (by rw [HR.out]; simp only [hn])
  clear hn
  generalize p.registers.l[k] = y at *
  obtain ⟨yn, yw, ys⟩ := y
  simp only at HR hq
  have hbad : Hid (∀ r : Int × Int, r.2 ≠ 0 → exprM p ps.l ix.l = r → stmtM p ps.l ⟨5, dh, df, k, hd, ix, vl⟩ = r.2) := Lib.hid (by
    intro r h1 h2
    rw [HR.out, h2, if_pos h1])
  go_enter Tryz.func152, Tryz.ntmps152
  go_upto_region 1 with fail
  rw [← hW]
  clear hW
  go_wp2_with fail
  refine (rdecl_any p dh df _ (HO.out.below (below_step HW.out (by first | exact HB | exact below_alloc HB _ | exact below_alloc (below_alloc HB _) _ | exact below_alloc (below_alloc (below_alloc HB _) _) _)))).mono ?_
  rintro e w1 ⟨rfl, hbN⟩
  replace HB := below_step (by first | exact HB | exact below_alloc HB _ | exact below_alloc (below_alloc HB _) _ | exact below_alloc (below_alloc (below_alloc HB _) _) _) hbN
  clear hbN
  simp only [widthV]
  go_wp2_with fail
  refine (rexprCheck_any p ps ix _ (HO.out.below (below_step HW.out (by first | exact HB | exact below_alloc HB _ | exact below_alloc (below_alloc HB _) _ | exact below_alloc (below_alloc (below_alloc HB _) _) _))) (HP.out.below (below_step HW.out (by first | exact HB | exact below_alloc HB _ | exact below_alloc (below_alloc HB _) _ | exact below_alloc (below_alloc (below_alloc HB _) _) _)) (Nat.le_refl _)) (HX.out.below (below_step HW.out (by first | exact HB | exact below_alloc HB _ | exact below_alloc (below_alloc HB _) _ | exact below_alloc (below_alloc (below_alloc HB _) _) _)) (Nat.le_refl _))).mono ?_
  rintro e w2 ⟨rfl, hbN⟩
  replace HB := below_step (by first | exact HB | exact below_alloc HB _ | exact below_alloc (below_alloc HB _) _ | exact below_alloc (below_alloc (below_alloc HB _) _) _) hbN
  clear hbN
  generalize hr : exprM p ps.l ix.l = r at *
  obtain ⟨a, c⟩ := r
  simp only at HR
  by_cases k5 : c = 0
  case neg =>
    have k5' : (c == 0) = false := beq_eq_false_iff_ne.2 k5
    have HR2 := Lib.hid (hbad.out _ k5 rfl)
    go_wp2
    go_ret
    exact ⟨by rw [HR2.out]; rfl, below_step HW.out HB⟩
  subst k5
  have hp2 := fun w' h => hp w' (below_step HB h)
  have hq2 := fun w' h => hq w' (below_step HB h)
  have HVV := Lib.hid HB
  have H0 := Lib.hid (Below.refl w2.heap.size w2)
  clear HB hq hp hbad
  replace HR := Lib.hid (HR.out.trans (by simp : _ = sizedM p ps.l vl.l yw))
  simp only [progCells, HAA.out] at hp2
  have hn1 : (k : Int) < (p.registers.l.length : Int) := by omega
  have hp3 := hp2 w2 H0.out
  go_wp2
  clear hp3
  go_region_held3 (fun w' => Below w2.heap.size w2 w') (first | exact H0.out | exact below_drew H0.out | (exact below_step (by assumption) (by assumption)) | assumption)
    (first | (go_at_call 182; refine (rsized_any p ps vl yw _ (HO.out.below (below_step HW.out (below_step HVV.out (by assumption)))) (HP.out.below (below_step HW.out (below_step HVV.out (by assumption))) (Nat.le_refl _)) (HV.out.below (below_step HW.out (below_step HVV.out (by assumption))) (Nat.le_refl _))).mono ?_; rintro e w1 ⟨rfl, hb1⟩))
  have HB5 : Hid (Below w2.heap.size w2 _) := Lib.hid (by assumption)
  go_wp2
  go_ret
  exact ⟨by rw [HR.out]; rfl, below_step HW.out (below_step HVV.out HB5.out)⟩
theorem rstatement_any (p : ProgD) (ps : L FieldD) (s : StmtD) (w : World) (o : ProgOk w p) (hps : LOk w 2 FieldD.cells ps) (os : StmtOk w s) :
    Calls Tryz.prog 152 #[.agg (progCells p), .agg (stmtCells s), .agg (scopeCells p ps)] w fun e w' => e = .returned (.int .i64 (stmtM p ps.l s)) ∧ Below w.heap.size w w' := by
  obtain ⟨kind, dh, df, rg, hd, ix, vl⟩ := s
  by_cases h1 : kind = 1
  · exact rst_assign p ps kind dh df rg hd ix vl w o hps os h1
  by_cases h2 : kind = 2
  · exact rst_hdr p ps kind dh df rg hd ix vl w o hps os (.inl h2)
  by_cases h3 : kind = 3
  · exact rst_hdr p ps kind dh df rg hd ix vl w o hps os (.inr h3)
  by_cases h4 : kind = 4
  · exact rst_read p ps kind dh df rg hd ix vl w o hps os h4
  by_cases h5 : kind = 5
  · exact rst_write p ps kind dh df rg hd ix vl w o hps os h5
  exact rst_other p ps kind dh df rg hd ix vl w o hps os h1 h2 h3 h4 h5
end Go.Proofs.YtgfbikknkcaneaaGreat
