/- The walk of the reference's IsIdentifier. No condition but the length of the text. The walk of the reference check of a header: it answers as the model hdrM. No condition but that the header lies in memory. A valid program with one more header: plain law. No condition. The walk of the law ProgramExtends. No condition but that the arguments were read from memory. -/
import Derived.Test.YtgfbikknkcaneaaGreatPgA
import Derived.Test.YtgfbikknkcaneaaGreatCkY
import Derived.Test.YtgfbikknkcaneaaGreatGf
import Derived.Test.YtgfbikknkcaneaaGreatGi
import Derived.Test.YtgfbikknkcaneaaGreatGd
import Derived.Deep.RegionLaw
import Derived.Deep.CutBlock
namespace Go.Proofs.YtgfbikknkcaneaaGreat
open Go.RowKit
set_option maxHeartbeats 400000 in
theorem rdig5_any (c : Int) (w : World) :
    Calls Tryz.prog 147 #[.int .u8 c] w fun e w' => e = .returned (.bool (isDig c)) ∧ w = w' := by
  go_enter Tryz.func147, Tryz.ntmps147
  go_wp2
  all_goals (go_ret; exact ⟨ret_bool (by rw [Bool.eq_iff_iff]; simp [isDig]; omega), rfl⟩)
theorem isWord_let {c : Int} (h : isLet c = true) : isWord c = true := by rw [isWord, h]; rfl
theorem ext_step {p : Int → Bool} {l : List UInt8} {k : Nat} (hk : k ≤ ext p l) (hlt : k < l.length) (hp : p ((l[k]'hlt).toNat : Nat) = true) : k + 1 ≤ ext p l := by
  rcases Nat.lt_or_ge k (ext p l) with h | h
  · exact h
  · have e : ext p l = k := by omega
    have := ext_stop p l (by omega)
    simp only [e] at this
    rw [hp] at this
    cases this
theorem ext_end {p : Int → Bool} {l : List UInt8} {k : Nat} (hk : k ≤ ext p l) (hlt : k < l.length) (hp : p ((l[k]'hlt).toNat : Nat) = false) : ext p l = k := by
  rcases Nat.lt_or_ge k (ext p l) with h | h
  · have := ext_all p l k h
    rw [hp] at this; cases this
  · omega

set_option maxRecDepth 100000 in
set_option maxHeartbeats 2000000 in
theorem risIdent_any (s : ByteArray) (w : World) (hs : s.size ≤ maxLen) :
    Calls Tryz.prog 91 #[.string s] w fun e w' => e = .returned (.bool (identM s.data.toList)) ∧ w = w' := by
  unfold maxLen at hs
  rcases Nat.eq_zero_or_pos s.size with hz | h0
  · have hz' : s.data.toList = [] := List.eq_nil_of_length_eq_zero hz
    have HZ := Lib.hid hz'
    have h1 : s.toList = [] := by rw [toList_data, hz']
    clear hz hz'
    go_enter Tryz.func91, Tryz.ntmps91
    go_wp2
    go_ret
    exact ⟨by rw [HZ.out]; rfl, rfl⟩
  · have h1 : s.toList.isEmpty = false := by rw [toList_data, list_one s h0]; rfl
    have HI := Lib.hid (identM_head s h0)
    by_cases h16 : 16 < s.size
    · go_enter Tryz.func91, Tryz.ntmps91
      go_wp2
      go_ret
      exact ⟨by rw [HI.out, show decide (s.size ≤ 16) = false from by simp; omega]; rfl, rfl⟩
    · have H16 : Hid (decide (s.size ≤ 16) = true) := Lib.hid (by simp; omega)
      rcases hl : isLet (s[0].toNat : Int) with _ | _
      · have HL := Lib.hid hl
        clear hl
        go_enter Tryz.func91, Tryz.ntmps91
        go_wp2_with fail
        refine (rletter_any _ _).mono ?_
        rintro e w' ⟨rfl, rfl⟩
        have hl := HL.out
        go_wp2
        go_ret
        exact ⟨by rw [HI.out, H16.out, HL.out]; rfl, rfl⟩
      · have HL := Lib.hid hl
        have HM : Hid (identM s.data.toList = decide (ext isWord s.data.toList = s.size)) := Lib.hid (by rw [HI.out, H16.out, hl]; rfl)
        clear hl
        have hle : ext isWord s.data.toList ≤ s.size := ext_le _ _
        go_enter Tryz.func91, Tryz.ntmps91
        go_wp2_with fail
        refine (rletter_any _ _).mono ?_
        rintro e w' ⟨rfl, rfl⟩
        have hl := HL.out
        go_wp2
        clear hl
        go_loop [3] (fun i => ∃ k : Nat, k ≤ ext isWord s.data.toList ∧ i = .int .i64 k) (fun i => s.size - (intOf i).toNat)
        case atStart => exact ⟨0, Nat.zero_le _, rfl⟩
        case round =>
          obtain ⟨k, hk, rfl⟩ := hrel
          by_cases hlt : k < s.size
          · rcases hb1 : isLet (s[k].toNat : Int) with _ | _
            · have HB1 := Lib.hid hb1
              clear hb1
              rcases hb2 : isDig (s[k].toNat : Int) with _ | _
              · have HB2 := Lib.hid hb2
                clear hb2
                rcases hb3 : ((s[k].toNat : Int) == 95) with _ | _
                · have HW : Hid (isWord (s[k].toNat : Int) = false) := Lib.hid (by rw [isWord, HB1.out, HB2.out, hb3]; rfl)
                  have hb3' : ((s[k].toNat : Int) != 95) = true := by rw [bne, hb3]; rfl
                  go_wp2_with fail
                  refine (rletter_any _ _).mono ?_
                  rintro e w' ⟨rfl, rfl⟩
                  have hb1 := HB1.out
                  go_wp2_with fail
                  refine (rdig5_any _ _).mono ?_
                  rintro e w' ⟨rfl, rfl⟩
                  have hb2 := HB2.out
                  go_wp2
                  go_ret
                  refine ⟨ret_bool ?_, rfl⟩
                  have := ext_end hk hlt HW.out
                  rw [HM.out, eq_comm]
                  show decide _ = false
                  rw [decide_eq_false_iff_not]; omega
                · have HW : Hid (isWord (s[k].toNat : Int) = true) := Lib.hid (by rw [isWord, hb3, Bool.or_true])
                  have hb3' : ((s[k].toNat : Int) != 95) = false := by rw [bne, hb3]; rfl
                  go_wp2_with fail
                  refine (rletter_any _ _).mono ?_
                  rintro e w' ⟨rfl, rfl⟩
                  have hb1 := HB1.out
                  go_wp2_with fail
                  refine (rdig5_any _ _).mono ?_
                  rintro e w' ⟨rfl, rfl⟩
                  have hb2 := HB2.out
                  go_wp2
                  go_round
                  case rel => exact ⟨k + 1, ext_step hk hlt HW.out, by go_num⟩
                  case measure => simp [intOf]; omega
              · have HB2 := Lib.hid hb2
                clear hb2
                have HW : Hid (isWord (s[k].toNat : Int) = true) := Lib.hid (by rw [isWord, HB2.out, Bool.or_true, Bool.true_or])
                go_wp2_with fail
                refine (rletter_any _ _).mono ?_
                rintro e w' ⟨rfl, rfl⟩
                have hb1 := HB1.out
                go_wp2_with fail
                refine (rdig5_any _ _).mono ?_
                rintro e w' ⟨rfl, rfl⟩
                have hb2 := HB2.out
                go_wp2
                go_round
                case rel => exact ⟨k + 1, ext_step hk hlt HW.out, by go_num⟩
                case measure => simp [intOf]; omega
            · have HB1 := Lib.hid hb1
              clear hb1
              have HW : Hid (isWord (s[k].toNat : Int) = true) := Lib.hid (isWord_let HB1.out)
              go_wp2_with fail
              refine (rletter_any _ _).mono ?_
              rintro e w' ⟨rfl, rfl⟩
              have hb1 := HB1.out
              go_wp2
              go_round
              case rel => exact ⟨k + 1, ext_step hk hlt HW.out, by go_num⟩
              case measure => simp [intOf]; omega
          · go_wp2
            go_ret
            refine ⟨ret_bool ?_, rfl⟩
            rw [HM.out, eq_comm]
            show decide _ = true
            rw [decide_eq_true_iff]; omega

end Go.Proofs.YtgfbikknkcaneaaGreat
namespace Go.Proofs.YtgfbikknkcaneaaGreat
open Go.RowKit

set_option maxRecDepth 100000 in
set_option maxHeartbeats 4000000 in
theorem findex_any (nm : ByteArray) (x : L FieldD) (i : Nat) (s : ByteArray) (w : World) (h : LOk w 2 FieldD.cells x) (hi : i < x.l.length) (hs : x.l[i].name = s) :
    Calls Tryz.prog 92 #[.agg #[.string nm, .slice x.A x.l.length x.c], .string s] w fun e w' => ∃ j : Nat, e = .returned (.tuple #[.int .i64 j, .bool true]) ∧ (j < i ↔ dupB (x.l.map FieldD.name) i = true) ∧ j ≤ i ∧ Below w.heap.size w w' := by
  obtain ⟨l, A0, c0⟩ := x
  obtain ⟨W, hW, hw, HB, hp⟩ := box1 w #[.string nm, .slice A0 l.length c0] 61
  have HW := Lib.hid hw
  have HX := Lib.hid (h.below hw (Nat.le_refl _))
  have HI := Lib.hid (show ∃ h : i < l.length, l[i].name = s from ⟨hi, hs⟩)
  have hmx : l.length ≤ 9223372036854775807 := h.1
  clear h hw hs
  simp only at hi ⊢
  obtain ⟨g, of, hA, hall⟩ := FieldD.allA HX.out (show 0 < l.length by omega)
  have HAL := Lib.hid hall
  simp only at hA
  subst hA
  have HB0 := Lib.hid HB
  clear hall
  go_enter Tryz.func92, Tryz.ntmps92
  go_upto_region 1 with fail
  rw [← hW]
  clear hW HB
  go_wp2
  go_loopw [6] (fun iv wr => ∃ k : Nat, k ≤ i ∧ iv = .int .i64 k ∧ Hid (∀ j (hj : j < l.length), j < k → l[j].name ≠ s) ∧ Below W.heap.size W wr) (fun iv _ => l.length - (intOf iv).toNat)
  case atStart => exact ⟨0, Nat.zero_le _, rfl, Lib.hid (fun j _ h => absurd h (Nat.not_lt_zero _)), HB0.out⟩
  case round =>
    obtain ⟨k, hk, rfl, HN, HB⟩ := hrel
    have hlt : k < l.length := by omega
    obtain ⟨d0, _⟩ := HAL.out wr HB k hlt
    have HS : Hid (l[k].name = s → (k < i ↔ dupB (l.map FieldD.name) i = true)) := Lib.hid (by
      obtain ⟨hil, his⟩ := HI.out
      intro hks
      constructor
      · intro hki
        exact dup_yes hil hki (by rw [hks, his])
      · intro hd
        rcases Nat.lt_or_ge k i with h | h
        · exact h
        · rw [dup_no hil (fun j hj hji => by rw [his]; exact HN.out j hj (by omega))] at hd; cases hd)
    have HE : Hid (k = i → l[k].name = s) := Lib.hid (by
      obtain ⟨hil, his⟩ := HI.out
      rintro rfl; exact his)
    have HN2 : Hid (l[k].name ≠ s → ∀ j (hj : j < l.length), j < k + 1 → l[j].name ≠ s) := Lib.hid (fun hne j hj hjk => by
      rcases Nat.lt_succ_iff_lt_or_eq.1 hjk with h1 | rfl
      · exact HN.out j hj h1
      · exact hne)
    generalize l[k].name = t at *
    by_cases ht : t = s
    · have HQ := Lib.hid (HS.out ht)
      have ht' := toList_true ht
      clear ht HS HE HN2
      go_wp2
      go_ret2
      exact ⟨k, rfl, HQ.out, hk, below_step HW.out HB⟩
    · have hki : k < i := by
        rcases Nat.lt_or_ge k i with h | h
        · exact h
        · exact absurd (HE.out (by omega)) ht
      have ht' := toList_false ht
      have HN3 := Lib.hid (HN2.out ht)
      clear ht HS HE HN2
      go_wp2
      go_roundw
      case rel => exact ⟨k + 1, by omega, by go_num, HN3, HB⟩
      case measure => simp [intOf]; omega
theorem widthSum_step {l : List FieldD} {k : Nat} (h : k < l.length) : widthSum (l.take (k + 1)) = widthSum (l.take k) + l[k].width := by
  rw [List.take_succ_eq_append_getElem h]
  simp only [widthSum, List.map_append, List.sum_append, List.map_cons, List.map_nil, List.sum_cons, List.sum_nil]
  omega
set_option maxRecDepth 100000 in
set_option maxHeartbeats 8000000 in
theorem rhdr_any (h : HeaderD) (w : World) (o : HeaderOk w h) :
    Calls Tryz.prog 27 #[.agg #[.string h.name, .slice h.fields.A h.fields.l.length h.fields.c]] w fun e w' => e = .returned (.int .i64 (hdrM h)) ∧ Below w.heap.size w w' := by
  obtain ⟨nm, ⟨l, A0, c0⟩⟩ := h
  have HS : Hid (nm.size ≤ maxLen) := Lib.hid o.name
  have HN : Hid (∀ f ∈ l, f.name.size ≤ maxLen) := Lib.hid o.names
  have HR := Lib.hid (hdrM_eq ⟨nm, ⟨l, A0, c0⟩⟩)
  obtain ⟨W, hW, hw, HB, hp⟩ := box1 w #[.string nm, .slice A0 l.length c0] 61
  have HW := Lib.hid hw
  have HX := Lib.hid (o.fields.below hw (Nat.le_refl _))
  have HB0 := Lib.hid HB
  simp only at HR ⊢
  clear o hw
  by_cases h0 : l.length = 0
  · have h0' : ((l.length : Int) == 0) = true := by rw [beq_iff_eq]; omega
    have HR2 : Hid (hdrM ⟨nm, ⟨l, A0, c0⟩⟩ = if ident nm = false then 6 else 8) := Lib.hid (by rw [HR.out, if_pos h0])
    clear h0
    go_enter Tryz.func27, Tryz.ntmps27
    go_upto_region 1 with fail
    rw [← hW]
    clear hW
    go_wp2_with fail
    refine (risIdent_any nm _ HS.out).mono ?_
    rintro e w' ⟨rfl, rfl⟩
    cases h1 : identM nm.data.toList
    · have HR3 := Lib.hid (HR2.out.trans (if_pos (show ident nm = false from h1)))
      go_wp2
      go_ret
      exact ⟨by rw [HR3.out]; rfl, below_step HW.out HB⟩
    · have HR3 := Lib.hid (HR2.out.trans (if_neg (show ¬ ident nm = false by rw [show ident nm = true from h1]; simp)))
      go_wp2
      go_ret
      exact ⟨by rw [HR3.out]; rfl, below_step HW.out HB⟩
  have h0' : ((l.length : Int) == 0) = false := by rw [beq_eq_false_iff_ne]; omega
  obtain ⟨g, of, hA, hall⟩ := FieldD.allA HX.out (show 0 < l.length by omega)
  have HAL := Lib.hid hall
  simp only at hA
  subst hA
  go_enter Tryz.func27, Tryz.ntmps27
  go_upto_region 1 with fail
  rw [← hW]
  clear hW hall
  go_wp2_with fail
  refine (risIdent_any nm _ HS.out).mono ?_
  rintro e w' ⟨rfl, rfl⟩
  cases h1 : identM nm.data.toList
  · have HR3 := Lib.hid (HR.out.trans (if_pos (show ident nm = false from h1)))
    go_wp2
    go_ret
    exact ⟨by rw [HR3.out]; rfl, below_step HW.out HB⟩
  replace HR := Lib.hid (HR.out.trans ((if_neg (show ¬ ident nm = false by rw [show ident nm = true from h1]; simp)).trans (if_neg h0)))
  clear h0 h1
  by_cases h12 : 12 < l.length
  · have HR3 := Lib.hid (HR.out.trans (if_pos h12))
    go_wp2
    go_ret
    exact ⟨by rw [HR3.out]; rfl, below_step HW.out HB⟩
  replace HR := Lib.hid (HR.out.trans (if_neg h12))
  have h12' : l.length ≤ 12 := by omega
  clear h12
  go_wp2
  clear HB
  go_loopw [3, 4] (fun nv iv wr => ∃ (k : Nat) (n : Int), k ≤ l.length ∧ iv = .int .i64 k ∧ nv = .int .i64 n ∧ 0 ≤ n ∧ n ≤ 32 * (k : Int) ∧ Hid (widthSum (l.take k) = n) ∧ (∀ j, j < k → fldM l j = none) ∧ Below W.heap.size W wr) (fun _ i _ => l.length - (intOf i).toNat)
  case atStart => exact ⟨0, 0, Nat.zero_le _, rfl, rfl, by omega, by omega, Lib.hid (by simp [widthSum]), fun j h => absurd h (Nat.not_lt_zero _), HB0.out⟩
  case round =>
    obtain ⟨k, n, hk, rfl, rfl, hn0, hn1, HSum, hpre, HB⟩ := hrel
    have HPre := Lib.hid hpre
    clear hpre
    by_cases hlt : k < l.length
    · obtain ⟨d0, d1⟩ := HAL.out wr HB k hlt
      have HF := Lib.hid (fldM_at l k hlt)
      have HNk := Lib.hid (HN.out _ (List.getElem_mem hlt))
      have HSt : Hid (widthSum (l.take (k + 1)) = n + l[k].width) := Lib.hid (by rw [widthSum_step hlt, HSum.out])
      have HFx : Hid (∀ u, Below wr.heap.size wr u → _) := Lib.hid (fun u hb => findex_any nm ⟨l, some ⟨g, of, none⟩, c0⟩ k l[k].name u (HX.out.below (below_step HB hb) (Nat.le_refl _)) hlt rfl)
      generalize l[k] = y at *
      obtain ⟨yn, yw⟩ := y
      simp only at HF HNk d0 d1 HSt HFx
      refine Exists.elim (box1 wr #[.string yn, .int .i64 yw] 63) ?_
      rintro U ⟨hU, hu, hUU, hbx⟩
      have HU := Lib.hid (below_step HB hu)
      have HFy := Lib.hid (HFx.out U hu)
      go_upto_region 12 with fail
      rw [← hU]
      clear hU hu d0 d1 HB HFx
      have HB := hUU
      have hq := fun w' (h : Below U.heap.size U w') => hp w' (below_step HU.out h)
      clear hp hUU
      go_wp2_with fail
      refine HFy.out.mono ?_
      rintro e w2 ⟨j, rfl, hj, hjk, hbN⟩
      replace HB := below_step HB hbN
      have HJ := Lib.hid hj
      clear hbN hj HFy
      go_wp2_with fail
      refine (risIdent_any yn _ HNk.out).mono ?_
      rintro e w' ⟨rfl, rfl⟩
      cases h1 : identM yn.data.toList
      · have HE := Lib.hid (HF.out.trans (if_pos (show ident yn = false from h1)))
        have HR2 := Lib.hid (HR.out.trans (show _ = (6 : Int) by rw [firstE_some hlt HPre.out HE.out]))
        go_wp2
        go_ret
        exact ⟨by rw [HR2.out]; rfl, below_step HW.out (below_step HU.out HB)⟩
      have HF1 := Lib.hid (HF.out.trans (if_neg (show ¬ ident yn = false by rw [show ident yn = true from h1]; simp)))
      clear HF h1
      cases h2 : okW yw
      · have HE := Lib.hid (HF1.out.trans (if_pos h2))
        have HR2 := Lib.hid (HR.out.trans (show _ = (10 : Int) by rw [firstE_some hlt HPre.out HE.out]))
        have h3 : yw < 1 ∨ (1 ≤ yw ∧ 32 < yw) := by have := okW_not.1 h2; omega
        rcases h3 with h3 | ⟨h3, h4⟩
        all_goals
          go_wp2
          go_ret
          exact ⟨by rw [HR2.out]; rfl, below_step HW.out (below_step HU.out HB)⟩
      have HF2 := Lib.hid (HF1.out.trans (if_neg (by rw [h2]; simp)))
      clear HF1
      obtain ⟨yw1, yw2⟩ := okW_iff.1 h2
      clear h2
      by_cases hjl : j < k
      · have HE := Lib.hid (HF2.out.trans (if_pos (HJ.out.1 hjl)))
        have HR2 := Lib.hid (HR.out.trans (show _ = (7 : Int) by rw [firstE_some hlt HPre.out HE.out]))
        have hjl' : (j : Int) < (k : Int) := by omega
        clear hjl
        go_wp2
        go_ret
        exact ⟨by rw [HR2.out]; rfl, below_step HW.out (below_step HU.out HB)⟩
      · have HE := Lib.hid (HF2.out.trans (if_neg (fun e => hjl (HJ.out.2 e))))
        have hjl' : ¬ (j : Int) < (k : Int) := by omega
        have hwr : IntKind.i64.wrap (n + yw) = n + yw := IntWalk.i64_in _ (by omega)
        clear hjl
        go_wp2
        go_roundw
        case rel => exact ⟨k + 1, n + yw, by omega, by go_num, by go_num, by omega, by omega, HSt, firstE_step HPre.out HE.out, below_step HU.out HB⟩
        case measure => simp [intOf]; omega
    · have e : k = l.length := by omega
      have hpre := HPre.out
      rw [e] at hpre
      have HR2 := Lib.hid (HR.out.trans (show _ = (if Int.tmod n 8 ≠ 0 then (10 : Int) else 0) by
        have h := HSum.out
        rw [e, List.take_length] at h
        rw [firstE_none hpre, h]))
      clear e hpre HPre
      rw [Int.tmod_eq_emod_of_nonneg hn0] at HR2
      by_cases h8 : n % 8 = 0
      · have HR3 := Lib.hid (HR2.out.trans (if_neg (fun h => h h8)))
        have h8' : (n % 8 == 0) = true := beq_iff_eq.2 h8
        clear h8
        go_wp2
        go_ret
        exact ⟨by rw [HR3.out]; rfl, below_step HW.out HB⟩
      · have HR3 := Lib.hid (HR2.out.trans (if_pos h8))
        have h8' : (n % 8 == 0) = false := beq_eq_false_iff_ne.2 h8
        clear h8
        go_wp2
        go_ret
        exact ⟨by rw [HR3.out]; rfl, below_step HW.out HB⟩
end Go.Proofs.YtgfbikknkcaneaaGreat
namespace Go.Proofs.YtgfbikknkcaneaaGreat
open Go.RowKit

/-- q is p with more headers behind -/
structure Ext (p q : ProgD) : Prop where
  hd : ∀ i, i < p.headers.l.length → q.headers.l[i]? = p.headers.l[i]?
  le : p.headers.l.length ≤ q.headers.l.length
  me : q.metadata = p.metadata
  re : q.registers = p.registers
  ac : q.actions = p.actions
  ta : q.tables = p.tables
  st : q.states = p.states
  co : q.control = p.control
  de : q.deparser = p.deparser
section
variable {p q : ProgD} (E : Ext p q)
include E
theorem Ext.fields {h : Int} {x : L FieldD} (hx : fieldsOf p h = some x) : fieldsOf q h = some x := by
  unfold fieldsOf at hx ⊢
  split at hx
  · rename_i h1; rw [if_pos h1, E.me]; exact hx
  · rename_i h1
    rw [if_neg h1]
    split at hx
    · cases hx
    · rename_i h2
      rw [if_neg h2]
      obtain ⟨y, hy, rfl⟩ := Option.map_eq_some_iff.1 hx
      rw [E.hd _ (List.getElem?_eq_some_iff.1 hy).1, hy]; rfl
theorem Ext.decl {h f : Int} {w : Int} (hx : declM p h f = some w) : declM q h f = some w := by
  unfold declM declF at hx ⊢
  cases hf : fieldsOf p h with
  | none => rw [hf] at hx; cases hx
  | some x => rw [hf] at hx; rw [E.fields hf]; exact hx
theorem Ext.width {h f : Int} (hx : widthAt p h f ≠ 0) : widthAt q h f = widthAt p h f := by
  have e : fieldsM q h = fieldsM p h := by
    unfold fieldsM
    by_cases h1 : h = -1
    · rw [if_pos h1, if_pos h1, E.me]
    · rw [if_neg h1, if_neg h1]
      unfold headerAt
      by_cases h2 : h < 0
      · rw [if_pos h2, if_pos h2]
      · rw [if_neg h2, if_neg h2]
        by_cases h3 : h.toNat < p.headers.l.length
        · rw [E.hd _ h3]
        · exfalso
          apply hx
          have h4 : headerAt p.headers h = noHeader := by
            unfold headerAt
            rw [if_neg h2, List.getElem?_eq_none (by omega)]; rfl
          unfold widthAt fieldsM
          rw [if_neg h1, h4]
          unfold fieldAt
          by_cases h5 : f < 0
          · rw [if_pos h5]; rfl
          · rw [if_neg h5]; rfl
  unfold widthAt
  rw [e]
theorem Ext.prim {ps : List FieldD} {x : NodeD} {w : Int} (h : primM p ps x = (w, 0)) : primM q ps x = (w, 0) := by
  unfold primM at h ⊢
  split at h
  · rename_i h1; rw [if_pos h1]; exact h
  · rename_i h1
    rw [if_neg h1]
    split at h
    · rename_i h2
      rw [if_pos h2]
      cases hd : declM p x.n x.w with
      | none => rw [hd] at h; simp at h
      | some v => rw [hd] at h; rw [E.decl hd]; exact h
    · rename_i h2
      rw [if_neg h2]
      split at h
      · rename_i h3; rw [if_pos h3]; exact h
      · rename_i h3
        rw [if_neg h3]
        split at h
        · simp at h
        · rename_i h4
          have := E.le
          rw [if_neg (by omega)]; exact h
theorem Ext.chk {ps : List FieldD} {l : List NodeD} : ∀ {m i : Nat}, (chkM p ps l m i).2.2 = 0 → chkM q ps l m i = chkM p ps l m i
  | 0, i, _ => rfl
  | m + 1, i, h => by
    rw [chkM] at h ⊢
    rw [chkM]
    cases hx : l[i]? with
    | none => rfl
    | some x =>
      rw [hx] at h
      simp only at h ⊢
      by_cases a1 : arityM x.op < 0
      · simp only [if_pos a1]
      simp only [if_neg a1] at h ⊢
      by_cases a2 : arityM x.op = 0
      · simp only [if_pos a2] at h ⊢
        rw [E.prim (show primM p ps x = ((primM p ps x).1, 0) by rw [← h])]
        rw [h]
      simp only [if_neg a2] at h ⊢
      by_cases c1 : (chkM p ps l m (i + 1)).2.2 = 0
      case neg => rw [if_pos c1] at h; exact absurd h c1
      rw [Ext.chk c1]
      simp only [c1, ne_eq, not_true_eq_false, ↓reduceIte] at h ⊢
      by_cases a3 : arityM x.op = 1
      · simp only [if_pos a3]
      simp only [if_neg a3] at h ⊢
      by_cases c2 : (chkM p ps l m (chkM p ps l m (i + 1)).2.1).2.2 = 0
      case neg => rw [if_pos c2] at h; exact absurd h c2
      rw [Ext.chk c2]
      simp only [c2, not_true_eq_false, ↓reduceIte] at h ⊢
      by_cases a4 : arityM x.op = 2
      · simp only [if_pos a4]
      simp only [if_neg a4] at h ⊢
      by_cases c3 : (chkM p ps l m (chkM p ps l m (chkM p ps l m (i + 1)).2.1).2.1).2.2 = 0
      case neg => rw [if_pos c3] at h; exact absurd h c3
      rw [Ext.chk c3]
theorem Ext.expr {ps : List FieldD} {l : List NodeD} (h : (exprM p ps l).2 = 0) : exprM q ps l = exprM p ps l := by
  unfold exprM at h ⊢
  by_cases h1 : 24 < l.length
  · rw [if_pos h1, if_pos h1]
  rw [if_neg h1] at h ⊢
  rw [if_neg h1]
  by_cases h2 : (chkM p ps l (l.length + 1) 0).2.2 = 0
  · rw [E.chk h2]
  · rw [if_pos h2] at h; exact absurd h h2
theorem Ext.sized {ps : List FieldD} {l : List NodeD} {w : Int} (h : sizedM p ps l w = 0) : sizedM q ps l w = 0 := by
  unfold sizedM at h ⊢
  split at h
  · simp at h
  · rename_i h1
    rw [E.expr h, if_neg h1]; exact h
theorem Ext.stmt {ps : List FieldD} {s : StmtD} (h : stmtM p ps s = 0) : stmtM q ps s = 0 := by
  unfold stmtM at h ⊢
  split at h
  · rename_i h1
    rw [if_pos h1]
    cases hd : declM p s.dh s.df with
    | none => rw [hd] at h; simp at h
    | some w => rw [hd] at h; rw [E.decl hd]; exact E.sized h
  rename_i h1
  rw [if_neg h1]
  split at h
  · rename_i h2
    rw [if_pos h2]
    split at h
    · simp at h
    · rename_i h3
      have := E.le
      rw [if_neg (by omega)]
  rename_i h2
  rw [if_neg h2]
  have hr : regAt q s.reg = regAt p s.reg := by unfold regAt; rw [E.re]
  split at h
  · rename_i h3
    rw [if_pos h3, hr]
    cases hg : regAt p s.reg with
    | none => rw [hg] at h; simp at h
    | some r =>
      cases hd : declM p s.dh s.df with
      | none => rw [hg, hd] at h; simp at h
      | some w =>
        rw [hg, hd] at h
        rw [E.decl hd]
        simp only at h ⊢
        by_cases c : (exprM p ps s.index.l).2 = 0
        · rw [E.expr c]; exact h
        · rw [if_pos c] at h; exact absurd h c
  rename_i h3
  rw [if_neg h3]
  split at h
  · rename_i h4
    rw [if_pos h4, hr]
    cases hg : regAt p s.reg with
    | none => rw [hg] at h; simp at h
    | some r =>
      rw [hg] at h
      simp only at h ⊢
      by_cases c : (exprM p ps s.index.l).2 = 0
      · rw [if_neg (by simp [c])] at h
        rw [E.expr c, if_neg (by simp [c])]
        exact E.sized h
      · rw [if_pos c] at h; exact absurd h c
  · simp at h
theorem Ext.act {a : ActD} (h : (actM p a).2 = 0) : (actM q a).2 = 0 := by
  unfold actM at h ⊢
  split at h
  · rename_i h1; exact absurd h h1
  rename_i h1
  rw [if_neg h1]
  split at h
  · rename_i r hr
    obtain ⟨j, _, hj⟩ := firstE_mem hr
    try simp only at hj
    split at hj
    · cases hj
    · split at hj
      · rename_i hne; cases hj; exact absurd h hne
      · cases hj
  · rename_i hz
    split
    · rename_i r hr
      exfalso
      obtain ⟨j, hj0, hj⟩ := firstE_mem hr
      have := firstE_inv hz j hj0
      rw [List.getElem?_eq_getElem hj0] at this hj
      simp only at this hj
      split at this
      · cases this
      · rename_i hs
        rw [E.stmt (Decidable.not_not.1 hs)] at hj
        simp at hj
    · rfl
theorem Ext.acts (h : actsM p = none) : actsM q = none := by
  unfold actsM at h ⊢
  rw [E.ac]
  refine firstE_none fun j hj => ?_
  have := firstE_inv h j hj
  unfold actAtM at this ⊢
  rw [E.ac, List.getElem?_eq_getElem hj] at *
  simp only at this ⊢
  split at this
  · cases this
  · rename_i hs
    rw [if_neg (by rw [E.act (Decidable.not_not.1 hs)]; simp)]
    exact this
theorem Ext.keys {l : List KeyD} (h : (keysM p l).2 = 0) : keysM q l = keysM p l := by
  have hz : firstE l.length (keyAtM p l) = none := by
    cases hf : firstE l.length (keyAtM p l) with
    | none => rfl
    | some r =>
      unfold keysM at h
      rw [hf] at h
      obtain ⟨j, hj1, hj⟩ := firstE_mem hf
      unfold keyAtM at hj
      rw [List.getElem?_eq_getElem hj1] at hj
      simp only at h hj
      split at hj
      · cases hj; simp at h
      · split at hj
        · cases hj; simp at h
        · cases hj
  have hw : ∀ k ∈ l, widthAt q k.h k.f = widthAt p k.h k.f := by
    intro k hk
    obtain ⟨i, hi, rfl⟩ := List.mem_iff_getElem.1 hk
    have := firstE_inv hz i hi
    unfold keyAtM at this
    rw [List.getElem?_eq_getElem hi] at this
    simp only at this
    split at this
    · cases this
    · rename_i hne
      exact E.width hne
  have hz2 : firstE l.length (keyAtM q l) = firstE l.length (keyAtM p l) := firstE_congr fun j hj => by
    unfold keyAtM
    rw [List.getElem?_eq_getElem hj]
    simp only
    rw [hw _ (List.getElem_mem hj)]
  have hb : bitsM q l = bitsM p l := by
    unfold bitsM
    rw [List.map_congr_left fun k hk => hw k hk]
  unfold keysM
  rw [hz2, hb]
theorem Ext.call (a : Int) (args : List Int) : callM q a args = callM p a args := by unfold callM; rw [E.ac]
theorem Ext.tacts (t : TabD) : tactsM q t = tactsM p t := by
  have h : tactAtM q t.acts.l = tactAtM p t.acts.l := by funext i; unfold tactAtM; rw [E.ac]
  unfold tactsM
  rw [h, E.call]
theorem Ext.tab {t : TabD} (h : (tabM p t).2 = 0) : tabM q t = tabM p t := by
  unfold tabM at h ⊢
  by_cases h1 : ident t.name = false
  · rw [if_pos h1, if_pos h1]
  rw [if_neg h1] at h ⊢
  rw [if_neg h1]
  by_cases h2 : 6 < t.keys.l.length ∨ 16 < t.acts.l.length
  · rw [if_pos h2, if_pos h2]
  rw [if_neg h2] at h ⊢
  rw [if_neg h2]
  by_cases h3 : t.size < 1 ∨ 256 < t.size
  · rw [if_pos h3, if_pos h3]
  rw [if_neg h3] at h ⊢
  rw [if_neg h3]
  by_cases h4 : (keysM p t.keys.l).2 = 0
  · rw [E.keys h4, E.tacts]
  · rw [if_pos h4] at h; exact absurd h h4
theorem Ext.tabs (h : tabsM p = none) : tabsM q = none := by
  unfold tabsM at h ⊢
  rw [E.ta]
  refine firstE_none fun j hj => ?_
  have := firstE_inv h j hj
  unfold tabAtM at this ⊢
  rw [E.ta, List.getElem?_eq_getElem hj] at *
  simp only at this ⊢
  split at this
  · cases this
  · rename_i hs
    rw [E.tab (Decidable.not_not.1 hs), if_neg hs]
    exact this
theorem Ext.leads (i : Nat) (n : Int) : leadsM q i n = leadsM p i n := by unfold leadsM; rw [E.st]
theorem Ext.state {i : Nat} {s : StateD} (h : (stateM p i s).2 = 0) : (stateM q i s).2 = 0 := by
  unfold stateM at h ⊢
  by_cases h1 : 4 < s.extract.l.length ∨ 8 < s.cases.l.length
  · rw [if_pos h1] at h; simp at h
  rw [if_neg h1] at h ⊢
  by_cases h2 : s.extract.l.any (fun h => decide (h < 0) || decide ((p.headers.l.length : Int) ≤ h)) = true
  · rw [if_pos h2] at h; simp at h
  have h2' : ¬ s.extract.l.any (fun h => decide (h < 0) || decide ((q.headers.l.length : Int) ≤ h)) = true := by
    intro hc
    apply h2
    rw [List.any_eq_true] at hc ⊢
    obtain ⟨x, hx, hb⟩ := hc
    refine ⟨x, hx, ?_⟩
    have := E.le
    simp only [Bool.or_eq_true, decide_eq_true_eq] at hb ⊢
    omega
  rw [if_neg h2] at h
  rw [if_neg h2']
  by_cases h3 : s.sel = true ∧ widthAt p s.oh s.of = 0
  · rw [if_pos h3] at h; simp at h
  rw [if_neg h3] at h
  have h3' : ¬ (s.sel = true ∧ widthAt q s.oh s.of = 0) := by
    rintro ⟨a, b⟩
    have hne : widthAt p s.oh s.of ≠ 0 := fun e => h3 ⟨a, e⟩
    rw [E.width hne] at b
    exact hne b
  rw [if_neg h3']
  by_cases h4 : s.sel = false ∧ 0 < s.cases.l.length
  · rw [if_pos h4] at h; simp at h
  rw [if_neg h4] at h ⊢
  have hc : firstE s.cases.l.length (caseAtM q i (widthAt q s.oh s.of) s.cases.l) = firstE s.cases.l.length (caseAtM p i (widthAt p s.oh s.of) s.cases.l) := by
    by_cases hs : s.sel = true
    · have hne : widthAt p s.oh s.of ≠ 0 := fun e => h3 ⟨hs, e⟩
      refine firstE_congr fun j hj => ?_
      unfold caseAtM caseM
      rw [E.width hne]
      rw [List.getElem?_eq_getElem hj]
      simp only
      rw [E.leads]
    · have : s.cases.l.length = 0 := by
        rcases Nat.eq_zero_or_pos s.cases.l.length with h | h
        · exact h
        · exact absurd ⟨by simpa using hs, h⟩ h4
      rw [this]; rfl
  rw [hc, E.leads]
  exact h
theorem Ext.parser (h : (parserM p).2.2 = 0) : (parserM q).2.2 = 0 := by
  have hz : firstE p.states.l.length (stateAtM p) = none := by
    cases hf : firstE p.states.l.length (stateAtM p) with
    | none => rfl
    | some r =>
      unfold parserM at h
      split at h
      · simp at h
      split at h
      · simp at h
      rw [hf] at h
      obtain ⟨j, hj1, hj⟩ := firstE_mem hf
      unfold stateAtM at hj
      rw [List.getElem?_eq_getElem hj1] at hj
      simp only at h hj
      split at hj
      · cases hj; simp at h
      split at hj
      · cases hj; simp at h
      split at hj
      · rename_i hne; cases hj; exact absurd h hne
      · cases hj
  have hz2 : firstE q.states.l.length (stateAtM q) = none := by
    rw [E.st]
    refine firstE_none fun j hj => ?_
    have := firstE_inv hz j hj
    unfold stateAtM at this ⊢
    rw [E.st, List.getElem?_eq_getElem hj] at *
    simp only at this ⊢
    split at this
    · cases this
    rename_i h1
    rw [if_neg h1]
    split at this
    · cases this
    rename_i h2
    rw [if_neg h2]
    split at this
    · cases this
    rename_i h3
    rw [if_neg (by rw [E.state (Decidable.not_not.1 h3)]; simp)]
  unfold parserM at h ⊢
  rw [hz2, E.st]
  split at h
  · simp at h
  rename_i h1
  rw [if_neg h1]
  split at h
  · simp at h
  rename_i h2
  rw [if_neg h2]
theorem Ext.node {used : List Int} {x : CtlD} (h : nodeM p used x = 0) : nodeM q used x = 0 := by
  unfold nodeM at h ⊢
  rw [E.ta]
  split at h
  · rename_i h1; rw [if_pos h1]; exact h
  rename_i h1
  rw [if_neg h1]
  split at h
  · rename_i h2
    rw [if_pos h2]
    by_cases c : (exprM p [] x.cond.l).2 = 0
    · rw [E.expr c]; exact h
    · rw [if_pos c] at h; exact absurd h c
  · simp at h
theorem Ext.ctl (h : (ctlM p).2 = 0) : (ctlM q).2 = 0 := by
  have hz : firstE (presM p.control.l).length (nodeAtM p (presM p.control.l)) = none := by
    cases hf : firstE (presM p.control.l).length (nodeAtM p (presM p.control.l)) with
    | none => rfl
    | some r =>
      unfold ctlM at h
      split at h
      · simp at h
      split at h
      · simp at h
      rw [hf] at h
      obtain ⟨j, hj1, hj⟩ := firstE_mem hf
      unfold nodeAtM at hj
      rw [List.getElem?_eq_getElem hj1] at hj
      simp only at h hj
      split at hj
      · rename_i hne; cases hj; exact absurd h hne
      · cases hj
  have hz2 : firstE (presM p.control.l).length (nodeAtM q (presM p.control.l)) = none := by
    refine firstE_none fun j hj => ?_
    have := firstE_inv hz j hj
    unfold nodeAtM at this ⊢
    rw [List.getElem?_eq_getElem hj] at *
    simp only at this ⊢
    split at this
    · cases this
    rename_i h3
    rw [if_neg (by rw [E.node (Decidable.not_not.1 h3)]; simp)]
  unfold ctlM at h ⊢
  rw [E.co, hz2]
  split at h
  · simp at h
  rename_i h1
  rw [if_neg h1]
  split at h
  · simp at h
  rename_i h2
  rw [if_neg h2]
theorem Ext.dep (h : (depM p).2 = 0) : (depM q).2 = 0 := by
  have hz : 8 < p.deparser.l.length ∨ firstE p.deparser.l.length (depAtM p p.deparser.l) = none := by
    by_cases h8 : 8 < p.deparser.l.length
    · exact .inl h8
    refine .inr ?_
    cases hf : firstE p.deparser.l.length (depAtM p p.deparser.l) with
    | none => rfl
    | some r =>
      unfold depM at h
      rw [if_neg h8, hf] at h
      obtain ⟨j, hj1, hj⟩ := firstE_mem hf
      unfold depAtM at hj
      rw [List.getElem?_eq_getElem hj1] at hj
      simp only at h hj
      split at hj
      · cases hj; simp at h
      split at hj
      · cases hj; simp at h
      · cases hj
  unfold depM at h ⊢
  rw [E.de]
  by_cases h8 : 8 < p.deparser.l.length
  · rw [if_pos h8] at h; simp at h
  rcases hz with hz | hz
  · exact absurd hz h8
  have hz2 : firstE p.deparser.l.length (depAtM q p.deparser.l) = none := by
    refine firstE_none fun j hj => ?_
    have := firstE_inv hz j hj
    unfold depAtM at this ⊢
    rw [List.getElem?_eq_getElem hj] at *
    simp only at this ⊢
    split at this
    · cases this
    rename_i h3
    have := E.le
    rw [if_neg (by omega)]
    assumption
  rw [if_neg h8, hz2]
theorem Ext.flow (h : flowM p = none) : flowM q = none := by
  unfold flowM at h ⊢
  split at h
  · cases h
  rename_i h1
  rw [if_neg (by rw [E.parser (Decidable.not_not.1 h1)]; simp)]
  split at h
  · cases h
  rename_i h2
  rw [if_neg (by rw [E.ctl (Decidable.not_not.1 h2)]; simp)]
  split at h
  · cases h
  rename_i h3
  rw [if_neg (by rw [E.dep (Decidable.not_not.1 h3)]; simp)]
end
/-- p with one more header -/
def withH (p : ProgD) (h : HeaderD) (A : Option Addr) (c : Nat) : ProgD := { p with headers := ⟨p.headers.l ++ [h], A, c⟩ }
theorem withH_ext (p : ProgD) (h : HeaderD) (A : Option Addr) (c : Nat) : Ext p (withH p h A c) :=
  ⟨fun i hi => by show (p.headers.l ++ [h])[i]? = _; rw [List.getElem?_append_left hi], by show _ ≤ (p.headers.l ++ [h]).length; simp, rfl, rfl, rfl, rfl, rfl, rfl, rfl⟩
theorem dup_append {l : List ByteArray} {s : ByteArray} {i : Nat} (hi : i < l.length) : dupB (l ++ [s]) i = dupB l i := by
  unfold dupB
  rw [List.take_append_of_le_length (by omega)]
  congr 1
  rw [List.getD_eq_getElem?_getD, List.getD_eq_getElem?_getD, List.getElem?_append_left hi]
theorem dup_last (l : List ByteArray) (s : ByteArray) : dupB (l ++ [s]) l.length = Lib.containsS l s := by
  unfold dupB
  rw [List.take_left, List.getD_eq_getElem?_getD, List.getElem?_concat_length]; rfl
theorem look_iff (l : List ByteArray) (s : ByteArray) : (lookM l s).2 = Lib.containsS l s := by
  unfold lookM Lib.containsS
  by_cases h : Lib.idxOfS l s < 0
  · rw [if_pos h]; simp; omega
  · rw [if_neg h]; simp; omega
/-- what the law says -/
theorem extends_law {p : ProgD} (hp : checkM p = none) (h : HeaderD) (A : Option Addr) (c : Nat) :
    (diagM (withH p h A c)).code = 0 ↔ p.headers.l.length < 8 ∧ hdrM h = 0 ∧ h.name ≠ metaName ∧ (lookM (namesOf p 1) h.name).2 = false := by
  have E := withH_ext p h A c
  have hp0 := hp
  rw [checkM] at hp
  obtain ⟨h0, hp⟩ := orE_none hp
  obtain ⟨h1, hp⟩ := orE_none hp
  obtain ⟨h2, hp⟩ := orE_none hp
  obtain ⟨h3, hp⟩ := orE_none hp
  obtain ⟨h4, hp⟩ := orE_none hp
  obtain ⟨h5, h6⟩ := orE_none hp
  have hn : namesOf p 1 = p.headers.l.map HeaderD.name := by simp [namesOf]
  rw [look_iff, hn]
  have hold : ∀ i, i < p.headers.l.length → hdrAtM (p.headers.l ++ [h]) i = none := by
    intro i hi
    have := firstE_inv h1 i hi
    unfold hdrAtM at this ⊢
    rw [List.getElem?_append_left hi, List.getElem?_eq_getElem hi] at *
    simp only at this ⊢
    rw [List.map_append, List.map_cons, List.map_nil, dup_append (by simpa using hi)]
    exact this
  have hnew : hdrAtM (p.headers.l ++ [h]) p.headers.l.length = if hdrM h ≠ 0 then some ⟨hdrM h, 1, p.headers.l.length, 0⟩ else if h.name = metaName then some ⟨6, 1, p.headers.l.length, 0⟩ else if Lib.containsS (p.headers.l.map HeaderD.name) h.name = true then some ⟨7, 1, p.headers.l.length, 0⟩ else none := by
    unfold hdrAtM
    rw [List.getElem?_concat_length]
    simp only
    have := dup_last (p.headers.l.map HeaderD.name) h.name
    rw [List.length_map] at this
    rw [List.map_append, List.map_cons, List.map_nil, this]
  have hlen : (withH p h A c).headers.l.length = p.headers.l.length + 1 := by show (p.headers.l ++ [h]).length = _; simp
  constructor
  · intro hd
    have hq := diagM_ok hd
    rw [checkM] at hq
    obtain ⟨q0, hq⟩ := orE_none hq
    obtain ⟨q1, hq⟩ := orE_none hq
    have hlt : p.headers.l.length < 8 := by
      unfold limM at q0
      rw [hlen] at q0
      split at q0
      · cases q0
      split at q0
      · cases q0
      · omega
    have := firstE_inv q1 p.headers.l.length (by omega)
    rw [show (withH p h A c).headers.l = p.headers.l ++ [h] from rfl, hnew] at this
    split at this
    · cases this
    rename_i a1
    split at this
    · cases this
    rename_i a2
    split at this
    · cases this
    rename_i a3
    exact ⟨hlt, Decidable.not_not.1 a1, a2, by simpa using a3⟩
  · rintro ⟨a0, a1, a2, a3⟩
    have q0 : limM (withH p h A c) = none := by
      unfold limM at h0 ⊢
      rw [hlen, show (withH p h A c).name = p.name from rfl, E.re, E.ac, E.ta]
      split at h0
      · cases h0
      rename_i b1
      rw [if_neg b1, if_neg (by omega)]
      split at h0
      · cases h0
      · exact h0
    have q1 : hdrsM (withH p h A c) = none := by
      unfold hdrsM
      rw [hlen]
      refine firstE_none fun j hj => ?_
      show hdrAtM (p.headers.l ++ [h]) j = none
      by_cases hjl : j < p.headers.l.length
      · exact hold j hjl
      · have : j = p.headers.l.length := by omega
        subst this
        rw [hnew, if_neg (by simp [a1]), if_neg a2, if_neg (by simp [a3])]
    have q2 : metaM (withH p h A c) = none := h2
    have q3 : regsM (withH p h A c) = none := h3
    have q : checkM (withH p h A c) = none := by
      rw [checkM, q0, q1, q2, q3, E.acts h4, E.tabs h5, E.flow h6]; rfl
    rw [diagM, q]; rfl
end Go.Proofs.YtgfbikknkcaneaaGreat
namespace Go.Proofs.YtgfbikknkcaneaaGreat
open Go.RowKit

/-- an append of a list in memory to a row of the call's own, inside a region that draws its order -/
theorem step_append_L {P : Program} {ops : Array Oper} {o : Oper} {a : Act} {w : World} {K : Act → World → Prop} {Q : Exit → Act → World → Prop} {E : Prop}
    (hg : o.guard = none) (s x : Operand) (t : TypeId) (hop : o.op = .call { callee := .builtin .append, args := #[s, x], argTypes := #[t, t] })
    (base : Nat) (e : TypeId) (i : TypeInfo) (z : Value) (size bytes : Nat) (ht : P.underlying t = some (.slice e)) (hi : P.info? e = some i) (hz : i.zero = some z)
    (hsize : i.size = size) (hby : i.bytes = bytes) (hzs : z.cells.size = size) (hsz : 0 < size)
    (v : Value) (n : Nat) (xs : List Value) (hs : a.eval s = v) (hown : w.ownsRow base e size v n xs)
    {α : Type} {cells : α → List Value} (y : L α) (hx : a.eval x = y.v) (hy : LOk w size cells y) (hnil : y.A = none → y.c = 0) (hk : ∀ u, (cells u).length = size) (h1 : ∀ u, ∀ c ∈ cells u, c.oneCell' = true)
    (h63 : n + y.l.length ≤ maxLen) (hbytes : (n + y.l.length) * bytes ≤ 140737488355328) (hbase : base ≤ w.heap.size)
    (h : ∀ v' w', w'.ownsRow base e size v' (n + y.l.length) (xs ++ y.l.flatMap cells) → w.grownBy w' v.ownBlock → Below base w w' → K (a.put o.dst v') w') :
    if Region.wanted o (yielded ops a.tmps) = true then Oper.wp P o a w K Q else E := by
  have hw : Region.wanted o (yielded ops a.tmps) = true := by simp [Region.wanted, hg]
  rw [if_pos hw]
  obtain ⟨l, A, c⟩ := y
  cases A with
  | none =>
    have hl : l = [] := by
      rcases hy.2 with h0 | ⟨g, o, e, _⟩
      · exact h0
      · cases e
    subst hl
    obtain rfl : c = 0 := hnil rfl
    have hrun := run_append_owned_none (P := P) (w := w) base t o.type e i size ht hi v n xs hown
    have hx' : a.eval x = .slice none 0 0 := hx
    unfold Oper.wp
    simp [execOp, hop, resolve, invoke, builtin, hs, hx', hrun, Result.andThen]
    exact h v w (by simpa using hown) ⟨rfl, rfl, rfl, Nat.le_refl _, fun _ _ _ => rfl⟩ (Below.refl _ _)
  | some ad =>
    refine wp_append_own w s x t hop base e i z size bytes ht hi hz hsize hby hzs hsz v n xs hs hown ad l.length c (l.flatMap cells) hx (flat_len cells size hk l) (fun m u hu => ?_) (fun u hu => ?_) h63 hbytes hbase (fun v' w' h2 h3 _ => h v' w' h2 h3 (grown_below hown h3 hbase))
    · obtain ⟨i', hi', j, hj, rfl, hc⟩ := flat_of cells size hk l m u hu
      obtain ⟨g, o, e', _, hcc⟩ := hy.at (x := ⟨l, some ad, c⟩) hi'
      simp only [Option.some.injEq] at e'
      rw [e', Addr.add_lit, ← Nat.add_assoc, hcc j hj, hc]
    · obtain ⟨r, _, hr⟩ := List.mem_flatMap.1 hu
      exact h1 r u hr
theorem one_hdr : ∀ u : HeaderD, ∀ c ∈ HeaderD.cells u, c.oneCell' = true := by
  intro u c hc
  simp [HeaderD.cells] at hc
  rcases hc with rfl | rfl <;> rfl
theorem one_ok {w : World} {g : Nat} (h : HeaderD) (hb : Blk w g 61 #[.string h.name, .slice h.fields.A h.fields.l.length h.fields.c]) : LOk w 2 HeaderD.cells ⟨[h], some ⟨g, 0, none⟩, 1⟩ := by
  refine ⟨by show (1 : Nat) ≤ maxLen; unfold maxLen; omega, .inr ⟨g, 0, rfl, hb.lt, fun i hi j hj => ?_⟩⟩
  have hi' : i < 1 := hi
  rw [hb.cell]
  match i, hi', j, hj with
  | 0, _, 0, _ => rfl
  | 0, _, 1, _ => rfl
theorem own_empty_at {w : World} {base k : Nat} {e : TypeId} {size : Nat} (hk : k = w.heap.size) (hb : base ≤ w.heap.size) : (w.alloc (.cells #[] e)).ownsRow base e size (.slice (some ⟨k, 0, none⟩) 0 0) 0 [] := by
  subst hk; exact own_empty _ _ _ _ hb
theorem own_drew {w : World} {B : Nat} {e : TypeId} {size : Nat} {v : Value} {n : Nat} {xs : List Value} (h : w.ownsRow B e size v n xs) : w.drew.ownsRow B e size v n xs := h
theorem blk_new_at {w : World} {k : Nat} {t : TypeId} {cs : Array Value} (hk : k = w.heap.size) : Blk (w.alloc (.cells cs t)) k t cs := by
  subst hk; exact Blk.new _ _ _
/-- the list lies in w, and in every world that differs from it in a block below B alone -/
def HdrRow (w : World) (B : Nat) (x : L HeaderD) : Prop := Own w (fun g => B ≤ g) 61 2 HeaderD.cells x
theorem hdr_row {w : World} {B : Nat} {p : ProgD} {h : HeaderD} {v : Value} (ho : w.ownsRow B 61 2 v (0 + p.headers.l.length + 1) ([] ++ p.headers.l.flatMap HeaderD.cells ++ [h].flatMap HeaderD.cells)) :
    ∃ A c, v = .slice A (p.headers.l.length + 1) c ∧ HdrRow w B ⟨p.headers.l ++ [h], A, c⟩ := by
  have e : (p.headers.l ++ [h]).length = 0 + p.headers.l.length + 1 := by simp
  have h2 : w.ownsRow B 61 2 v (p.headers.l ++ [h]).length ((p.headers.l ++ [h]).flatMap HeaderD.cells) := by
    rw [e, List.flatMap_append]; simpa using ho
  obtain ⟨A, c, e1, e2⟩ := Own.of (k := 2) (cells := HeaderD.cells) (fun _ => rfl) h2
  refine ⟨A, c, ?_, e2⟩
  rw [e1, e]; simp
theorem HdrRow.ok_set {w : World} {B : Nat} {x : L HeaderD} (h : HdrRow w B x) {q : Addr} {v : Value} (hq : q.block < B) : LOk (w.setCell q v) 2 HeaderD.cells x :=
  (Own.moves h (Moves.set w q v (fun g (hg : B ≤ g) => by omega))).ok (fun _ => rfl)
theorem withH_ok {w : World} {p : ProgD} {h : HeaderD} {A : Option Addr} {c : Nat} (o : ProgOk w p) (oh : HeaderOk w h) (hl : LOk w 2 HeaderD.cells ⟨p.headers.l ++ [h], A, c⟩) : ProgOk w (withH p h A c) :=
  ⟨o.name, hl, fun x hx => by
    rcases List.mem_append.1 hx with hx | hx
    · exact o.hdr x hx
    · rw [List.mem_singleton] at hx; subst hx; exact oh,
   o.metadata, o.mnames, o.registers, o.rnames, o.actions, o.act, o.tables, o.tab, o.states, o.state, o.control, o.ctl, o.deparser⟩
theorem withH_cap {p : ProgD} {h : HeaderD} {A : Option Addr} {c : Nat} (o : ProgCap p) (oh : h.fields.l.length ≤ h.fields.c) : ProgCap (withH p h A c) :=
  ⟨fun x hx => by
    rcases List.mem_append.1 hx with hx | hx
    · exact o.fields x hx
    · rw [List.mem_singleton] at hx; subst hx; exact oh,
   o.params, o.dep, o.dflt, o.args, o.cases⟩
set_option maxRecDepth 100000 in
set_option maxHeartbeats 16000000 in
theorem law_extends (p : ProgD) (h : HeaderD) (w : World) (hp0 : ProgGood w p) (hh0 : HdrGood w h) :
    Calls Tryz.prog 9 #[.agg (progCells p), .agg #[.string h.name, .slice h.fields.A h.fields.l.length h.fields.c]] w fun e w' => e = .returned (.bool true) ∧ Below w.heap.size w w' := by
  obtain ⟨W, hW, hw, HB, hsz, hpq⟩ := boxC w (progCells p) 31 #[.string h.name, .slice h.fields.A h.fields.l.length h.fields.c] 61
  have hp := fun w' h => (⟨(hpq w' h).1, (hpq w' h).2.1, (hpq w' h).2.2.1, (hpq w' h).2.2.2.1⟩ : _ ∧ _ ∧ _ ∧ _)
  have HPB : Hid (∀ w', Below W.heap.size W w' → Blk w' w.heap.size 31 (progCells p)) := Lib.hid (fun w' hb => by
    have h1 : Blk W w.heap.size 31 (progCells p) := by rw [hW]; exact (Blk.new _ _ _).alloc _
    exact h1.below hb h1.lt)
  have HW := Lib.hid hw
  have HSz := Lib.hid hsz
  have HOw := Lib.hid (And.intro hp0.ok (show HeaderOk w h from ⟨hh0.name, hh0.fields.lok, fun f hf => (hh0.fields.all f hf).name⟩))
  have HO := Lib.hid (HOw.out.1.below hw)
  have HH := Lib.hid (HOw.out.2.below hw)
  have HL := Lib.hid (tooLarge_any p W HO.out (len_cap hp0.control (by decide)) hp0.caps)
  have HCap := Lib.hid (And.intro hp0.cap (And.intro hh0.fields.le hp0.headers.nil))
  clear hp0 hh0 hw hpq hsz
  obtain ⟨i0, hi, hz0, hz1, hz2⟩ := info_parts info_header
  go_enter Tryz.func9, Tryz.ntmps9
  go_upto_region 1 with fail
  rw [← hW]
  clear hW
  go_wp2_with fail
  refine HL.out.mono ?_
  rintro e w1 ⟨⟨b, rfl, hb⟩, hbN⟩
  replace HB := below_step HB hbN
  have HS := Lib.hid hb
  clear hbN hb HL
  cases b with
  | true =>
    go_wp2_with fail
    refine (works_any _).mono ?_
    rintro e w7 ⟨rfl, hbN⟩
    replace HB := below_step HB hbN
    clear hbN
    go_wp2
    go_ret
    exact ⟨rfl, below_step HW.out HB⟩
  | false =>
  have HSm := Lib.hid (HS.out rfl)
  clear HS
  go_wp2_with fail
  refine (small_any h _ (HH.out.fields.below HB (Nat.le_refl _))).mono ?_
  rintro e w1 ⟨⟨b, rfl, hb⟩, hbN⟩
  replace HB := below_step HB hbN
  clear hbN hb
  cases b with
  | false =>
    go_wp2_with fail
    refine (works_any _).mono ?_
    rintro e w7 ⟨rfl, hbN⟩
    replace HB := below_step HB hbN
    clear hbN
    go_wp2
    go_ret
    exact ⟨rfl, below_step HW.out HB⟩
  | true =>
  have hk := check_any p _ (HO.out.below HB) HCap.out.1 (Nat.le_trans HSm.out.nodes (by decide))
  rw [diag_val] at hk
  have HD : Hid ((diagM p).code = 0 → checkM p = none) := Lib.hid diagM_ok
  generalize (diagM p).code = c at *
  generalize (diagM p).part = d1 at *
  generalize (diagM p).item = d2 at *
  generalize (diagM p).sub = d3 at *
  have HK := Lib.hid hk
  clear hk
  have hd := diag_code c d1 d2 d3
  by_cases hc : c = 0
  case neg =>
    have hc' : (c == 0) = false := beq_eq_false_iff_ne.2 hc
    clear hc
    go_wp2_with fail
    refine HK.out.mono ?_
    rintro e w2 ⟨rfl, hbN⟩
    replace HB := below_step HB hbN
    clear hbN HK
    go_wp2_with fail
    refine (works_any _).mono ?_
    rintro e w7 ⟨rfl, hbN⟩
    replace HB := below_step HB hbN
    clear hbN
    go_wp2
    go_ret
    exact ⟨rfl, below_step HW.out HB⟩
  subst hc
  have HCk := Lib.hid (HD.out rfl)
  clear HD
  go_wp2_with fail
  refine HK.out.mono ?_
  rintro e w2 ⟨rfl, hbN⟩
  replace HB := below_step HB hbN
  clear hbN HK
  go_wp2_with fail
  have hc := rlookup_any p 1 h.name _ (HO.out.below HB) HSm.out.short
  have HR : Hid (∀ A c, (diagM (withH p h A c)).code = 0 ↔ p.headers.l.length < 8 ∧ hdrM h = 0 ∧ h.name ≠ metaName ∧ (lookM (namesOf p 1) h.name).2 = false) := Lib.hid (fun A c => extends_law HCk.out h A c)
  generalize lookM (namesOf p 1) h.name = r at *
  obtain ⟨ra, rb⟩ := r
  simp only at HR hc
  refine hc.mono ?_
  clear hc
  rintro e w3 ⟨rfl, hbN⟩
  replace HB := below_step HB hbN
  clear hbN HCk
  have HLen := Lib.hid HSm.out.headers
  have HBx := Lib.hid HB
  clear HB
  go_upto_region 4 with fail
  go_cut [7] from 29 to 63 (fun v wr => ∃ want : Bool, v = .bool want ∧ Hid (∀ A c, want = true ↔ (diagM (withH p h A c)).code = 0) ∧ Below W.heap.size W wr)
  case first =>
    have HB := HBx.out
    by_cases c1 : p.headers.l.length < 8
    case neg =>
      have c1' : ¬ (p.headers.l.length : Int) < 8 := by omega
      have HWt : Hid (∀ A c, false = true ↔ (diagM (withH p h A c)).code = 0) := Lib.hid (fun A c => by simp; intro e; exact c1 ((HR.out A c).1 e).1)
      clear c1 HR
      go_wp2
      go_meet
      case rel => exact ⟨false, rfl, HWt, HB⟩
    have c1' : (p.headers.l.length : Int) < 8 := by omega
    have HR1 := Lib.hid c1
    clear c1
    go_wp2_with fail
    have hc := rhdr_any h _ (HH.out.below HB)
    generalize hdrM h = hc0 at *
    refine hc.mono ?_
    clear hc
    rintro e w3 ⟨rfl, hbN⟩
    replace HB := below_step HB hbN
    clear hbN
    by_cases c2 : hc0 = 0
    case neg =>
      have c2' : (hc0 == 0) = false := beq_eq_false_iff_ne.2 c2
      have HWt : Hid (∀ A c, false = true ↔ (diagM (withH p h A c)).code = 0) := Lib.hid (fun A c => by simp; intro e; exact c2 ((HR.out A c).1 e).2.1)
      clear c2 HR
      go_wp2
      go_meet
      case rel => exact ⟨false, rfl, HWt, HB⟩
    subst c2
    by_cases c3 : h.name = metaName
    case pos =>
      have c3' := meta_true c3
      have HWt : Hid (∀ A c, false = true ↔ (diagM (withH p h A c)).code = 0) := Lib.hid (fun A c => by simp; intro e; exact ((HR.out A c).1 e).2.2.1 c3)
      clear c3 HR
      go_wp2
      go_meet
      case rel => exact ⟨false, rfl, HWt, HB⟩
    have c3' := meta_false c3
    have HWt : Hid (∀ A c, (!rb) = true ↔ (diagM (withH p h A c)).code = 0) := Lib.hid (fun A c => by rw [HR.out A c]; simp [HR1.out, c3])
    clear c3 HR
    go_wp2
    go_meet
    case rel => exact ⟨!rb, rfl, HWt, HB⟩
  case rest =>
  obtain ⟨want, rfl, HWt, HB⟩ := hcut
  have hb1 := HB.drew
  have hb2 := fun o => (below_alloc HB o).drew
  have hb3 := fun o o2 => (below_alloc (below_alloc HB o) o2).drew
  have hsz := HB.size
  go_upto_region 5 with fail
  go_cut [] from 47 to 63 (fun wr => ∃ A c, Hid (Blk wr w.heap.size 31 (progCells (withH p h A c)) ∧ LOk wr 2 HeaderD.cells ⟨p.headers.l ++ [h], A, c⟩) ∧ Below w.heap.size w wr)
  case first =>
    go_region_law (first
      | (refine step_append_L rfl (.tmp 47) (.tmp 49) 22 rfl W.heap.size 61 i0 _ 2 40 Tryz.underlying22 hi hz0 hz1 hz2 rfl (by decide) _ 0 [] rfl (by first | exact own_drew (own_empty_at (by simp) hsz) | exact own_drew (own_empty_at (by simp) (by simp; omega)) | exact own_drew ((own_empty_at (by simp) hsz).alloc _)) p.headers rfl (HO.out.headers.below (by first | exact hb2 _ | exact hb3 _ _) (Nat.le_refl _)) HCap.out.2.2 (fun _ => rfl) one_hdr (by have := HLen.out; unfold maxLen; omega) (by have := HLen.out; omega) (by simp; omega) ?_; intro v4 w4 hown hgrow hbl; have HOwn := Lib.hid hown; have HG : Hid (World.grownBy _ w4 (some _)) := Lib.hid hgrow; have hb4 : Below W.heap.size W w4 := Below.trans (by first | exact hb2 _ | exact hb3 _ _) hbl; have hb5 := fun o => below_alloc hb4 o; have hsz4 := hb4.size; clear hown hgrow hbl)
      | (refine step_append_L rfl (.tmp 50) (.tmp 52) 22 rfl W.heap.size 61 i0 _ 2 40 Tryz.underlying22 hi hz0 hz1 hz2 rfl (by decide) _ _ _ rfl (by first | exact HOwn.out | exact HOwn.out.alloc _) ⟨[h], some ⟨_, 0, none⟩, 1⟩ rfl (by first | exact one_ok h (Blk.new _ _ _) | exact one_ok h (Blk.grown (Blk.drew ((Blk.new _ _ _).alloc _)) HG.out (by simp)) | exact one_ok h (Blk.grown (Blk.drew (blk_new_at (by simp))) HG.out (by simp))) (fun e => by cases e) (fun _ => rfl) one_hdr (by have := HLen.out; show 0 + _ + 1 ≤ _; unfold maxLen; omega) (by have := HLen.out; show (0 + _ + 1) * 40 ≤ _; omega) (by first | exact hsz4 | (simp; omega)) ?_; intro v5 w5 hown hgrow hbl; obtain ⟨A, c, rfl, hQ⟩ := hdr_row hown; have HQ := Lib.hid hQ; have hb6 : Below W.heap.size W w5 := Below.trans (by first | exact hb4 | exact hb5 _) hbl; clear hown hgrow hbl hQ))
    all_goals
      refine Exists.elim (⟨_, rfl⟩ : ∃ V, V = w5.setCell ⟨w.heap.size, 1, none⟩ (.slice A (p.headers.l.length + 1) c)) fun V hV => ?_
      have hBV : Hid (Blk V w.heap.size 31 (progCells (withH p h A c)) ∧ LOk V 2 HeaderD.cells ⟨p.headers.l ++ [h], A, c⟩) := Lib.hid ⟨by
        rw [hV]
        have := (HPB.out _ hb6).set_ 1 (.slice A (p.headers.l.length + 1) c)
        simpa [progCells, withH] using this, by rw [hV]; exact HQ.out.ok_set (by have := HSz.out; show w.heap.size < W.heap.size; omega)⟩
      have hbV : Below w.heap.size w V := by rw [hV]; exact Below.setCell (below_step HW.out hb6) (Nat.le_refl _) _
      go_wp2
      rw [← hV]
      clear hV
      go_meet
      case rel => exact ⟨A, c, hBV, hbV⟩
  case rest =>
  obtain ⟨A, c, HV, hbV⟩ := hcut
  clear hb1 hb2 hb3 hsz HB hp
  have HBV := Lib.hid hbV
  have OV := Lib.hid (withH_ok (HOw.out.1.below hbV) (HOw.out.2.below hbV) HV.out.2)
  have hpV := blk_cells (n := 9) HV.out.1 _ (Below.refl _ _)
  have hk := check_any (withH p h A c) _ OV.out (withH_cap HCap.out.1 HCap.out.2.1) (Nat.le_trans HSm.out.nodes (by decide))
  rw [diag_val] at hk
  have HWc := Lib.hid (HWt.out A c)
  clear hbV HV
  generalize (diagM (withH p h A c)).code = dc at *
  generalize (diagM (withH p h A c)).part = dc1 at *
  generalize (diagM (withH p h A c)).item = dc2 at *
  generalize (diagM (withH p h A c)).sub = dc3 at *
  have hdc := diag_code dc dc1 dc2 dc3
  have hdb : (dc == 0) = want := by
    have := HWc.out
    cases want with
    | true => exact beq_iff_eq.2 (this.1 rfl)
    | false => exact beq_eq_false_iff_ne.2 (fun e => by have h := this.2 e; cases h)
  have hww : (want == want) = true := by simp
  go_wp2_with fail
  refine hk.mono ?_
  clear hk
  rintro e w6 ⟨rfl, hbN⟩
  have HB6 := Lib.hid (below_step HBV.out hbN)
  clear hbN
  go_wp2_with fail
  refine (works_any _).mono ?_
  rintro e w7 ⟨rfl, hbN⟩
  have HB7 := Lib.hid (below_step HB6.out hbN)
  clear hbN
  go_wp2
  go_ret
  exact ⟨rfl, HB7.out⟩
end Go.Proofs.YtgfbikknkcaneaaGreat
