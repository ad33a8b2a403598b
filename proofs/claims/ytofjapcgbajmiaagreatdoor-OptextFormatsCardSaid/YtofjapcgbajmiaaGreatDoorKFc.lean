/- Walks and plain laws that the proof of the law OptextFormats stands on. No condition beyond those that each states. -/
import Derived.Test.YtofjapcgbajmiaaGreatDoorKFb
namespace Go.Proofs.YtofjapcgbajmiaaGreatDoor
open Go.RowKit
set_option maxRecDepth 100000
set_option maxHeartbeats 32000000
theorem risIdent_any (s : ByteArray) (w : World) (hs : s.size ≤ maxLen) :
  Calls Tryz.prog 109 #[.string s] w fun e w' => e = .returned (.bool (identM s.data.toList)) ∧ w = w' := by
 unfold maxLen at hs
 rcases Nat.eq_zero_or_pos s.size with hz | h0
 ·
  have hz' : s.data.toList = [] := List.eq_nil_of_length_eq_zero hz
  have HZ := hi_ hz'
  have h1 : s.toList = [] := by rw [toList_data, hz']
  clear hz hz'
  go_enter Tryz.func109, Tryz.ntmps109
  go_wp2
  go_ret
  exact ⟨by rw [HZ.out]; rfl, rfl⟩
 ·
  have h1 : s.toList.isEmpty = false := by rw [toList_data, list_one s h0]; rfl
  have HI := hi_ (identM_head s h0)
  by_cases h16 : 16 < s.size
  ·
   go_enter Tryz.func109, Tryz.ntmps109
   go_wp2
   go_ret
   exact ⟨by rw [HI.out, show decide (s.size ≤ 16) = false from by simp; omega]; rfl, rfl⟩
  ·
   have H16 : Hid (decide (s.size ≤ 16) = true) := hi_ (by simp; omega)
   rcases hl : isLet (s[0].toNat : Int) with _ | _
   ·
    have HL := hi_ hl
    clear hl
    go_enter Tryz.func109, Tryz.ntmps109
    go_wp2_with fail
    refine (rletter_any _ _).mono ?_
    rintro e w' ⟨rfl, rfl⟩
    have hl := HL.out
    go_wp2
    go_ret
    exact ⟨by rw [HI.out, H16.out, HL.out]; rfl, rfl⟩
   ·
    have HL := hi_ hl
    have HM : Hid (identM s.data.toList = decide (ext isWord s.data.toList = s.size)) := hi_ (by rw [HI.out, H16.out, hl]; rfl)
    clear hl
    have hle : ext isWord s.data.toList ≤ s.size := ext_le _ _
    go_enter Tryz.func109, Tryz.ntmps109
    go_wp2_with fail
    refine (rletter_any _ _).mono ?_
    rintro e w' ⟨rfl, rfl⟩
    have hl := HL.out
    go_wp2
    clear hl
    go_loop [3] (fun i => ∃ k : Nat, k ≤ ext isWord s.data.toList ∧ i = .int .i64 k) (fun i => s.size - (intOf i).toNat)
    case atStart => exact ⟨0, Nat.zero_le _, rfl⟩
    case round =>
     obtain ⟨k, hk, rfl⟩ := hrel
     by_cases hlt : k < s.size
     ·
      rcases hb1 : isLet (s[k].toNat : Int) with _ | _
      ·
       have HB1 := hi_ hb1
       clear hb1
       rcases hb2 : isDig (s[k].toNat : Int) with _ | _
       ·
        have HB2 := hi_ hb2
        clear hb2
        rcases hb3 : ((s[k].toNat : Int) == 95) with _ | _
        ·
         have HW : Hid (isWord (s[k].toNat : Int) = false) := hi_ (by rw [isWord, HB1.out, HB2.out, hb3]; rfl)
         have hb3' : ((s[k].toNat : Int) != 95) = true := by rw [bne, hb3]; rfl
         go_wp2_with fail
         refine (rletter_any _ _).mono ?_
         rintro e w' ⟨rfl, rfl⟩
         have hb1 := HB1.out
         go_wp2_with fail
         refine (rdig5R_any _ _).mono ?_
         rintro e w' ⟨rfl, rfl⟩
         have hb2 := HB2.out
         go_wp2
         go_ret
         refine ⟨ret_bool ?_, rfl⟩
         have := ext_endR hk hlt HW.out
         rw [HM.out, eq_comm]
         show decide _ = false
         rw [decide_eq_false_iff_not]; omega
        ·
         have HW : Hid (isWord (s[k].toNat : Int) = true) := hi_ (by rw [isWord, hb3, Bool.or_true])
         have hb3' : ((s[k].toNat : Int) != 95) = false := by rw [bne, hb3]; rfl
         go_wp2_with fail
         refine (rletter_any _ _).mono ?_
         rintro e w' ⟨rfl, rfl⟩
         have hb1 := HB1.out
         go_wp2_with fail
         refine (rdig5R_any _ _).mono ?_
         rintro e w' ⟨rfl, rfl⟩
         have hb2 := HB2.out
         go_wp2
         go_round
         case rel => exact ⟨k + 1, ext_stepR hk hlt HW.out, by go_num⟩
         case measure => simp [intOf]; omega
       ·
        have HB2 := hi_ hb2
        clear hb2
        have HW : Hid (isWord (s[k].toNat : Int) = true) := hi_ (by rw [isWord, HB2.out, Bool.or_true, Bool.true_or])
        go_wp2_with fail
        refine (rletter_any _ _).mono ?_
        rintro e w' ⟨rfl, rfl⟩
        have hb1 := HB1.out
        go_wp2_with fail
        refine (rdig5R_any _ _).mono ?_
        rintro e w' ⟨rfl, rfl⟩
        have hb2 := HB2.out
        go_wp2
        go_round
        case rel => exact ⟨k + 1, ext_stepR hk hlt HW.out, by go_num⟩
        case measure => simp [intOf]; omega
      ·
       have HB1 := hi_ hb1
       clear hb1
       have HW : Hid (isWord (s[k].toNat : Int) = true) := hi_ (isWord_letR HB1.out)
       go_wp2_with fail
       refine (rletter_any _ _).mono ?_
       rintro e w' ⟨rfl, rfl⟩
       have hb1 := HB1.out
       go_wp2
       go_round
       case rel => exact ⟨k + 1, ext_stepR hk hlt HW.out, by go_num⟩
       case measure => simp [intOf]; omega
     ·
      go_wp2
      go_ret
      refine ⟨ret_bool ?_, rfl⟩
      rw [HM.out, eq_comm]
      show decide _ = true
      rw [decide_eq_true_iff]; omega
theorem findex_any (nm : ByteArray) (x : L FieldD) (i : Nat) (s : ByteArray) (w : World) (h : LOk w 2 FieldD.cells x) (hi : i < x.l.length) (hs : x.l[i].name = s) :
  Calls Tryz.prog 176 #[.agg #[.string nm, .slice x.A x.l.length x.c], .string s] w fun e w' => ∃ j : Nat, e = .returned (.tuple #[.int .i64 j, .bool true]) ∧ (j < i ↔ dupB (x.l.map FieldD.name) i = true) ∧ j ≤ i ∧ Below w.heap.size w w' := by
 obtain ⟨l, A0, c0⟩ := x
 obtain ⟨W, hW, hw, HB, hp⟩ := box1 w #[.string nm, .slice A0 l.length c0] 98
 have HW := hi_ hw
 have HX := hi_ (h.below hw (Nat.le_refl _))
 have HI := hi_ (show ∃ h : i < l.length, l[i].name = s from ⟨hi, hs⟩)
 have hmx : l.length ≤ 9223372036854775807 := h.1
 clear h hw hs
 simp only at hi ⊢
 obtain ⟨g, of, hA, hall⟩ := FieldD.allA HX.out (show 0 < l.length by omega)
 have HAL := hi_ hall
 simp only at hA
 subst hA
 have HB0 := hi_ HB
 clear hall
 go_enter Tryz.func176, Tryz.ntmps176
 go_upto_region 1 with fail
 rw [← hW]
 clear hW HB
 go_wp2
 go_loopw [6] (fun iv wr => ∃ k : Nat, k ≤ i ∧ iv = .int .i64 k ∧ Hid (∀ j (hj : j < l.length), j < k → l[j].name ≠ s) ∧ Below W.heap.size W wr) (fun iv _ => l.length - (intOf iv).toNat)
 case atStart => exact ⟨0, Nat.zero_le _, rfl, hi_ (fun j _ h => absurd h (Nat.not_lt_zero _)), HB0.out⟩
 case round =>
  obtain ⟨k, hk, rfl, HN, HB⟩ := hrel
  have hlt : k < l.length := by omega
  obtain ⟨d0, _⟩ := HAL.out wr HB k hlt
  have HS : Hid (l[k].name = s → (k < i ↔ dupB (l.map FieldD.name) i = true)) := hi_ (by
   obtain ⟨hil, his⟩ := HI.out
   intro hks
   constructor
   ·
    intro hki
    exact dup_yes hil hki (by rw [hks, his])
   ·
    intro hd
    rcases Nat.lt_or_ge k i with h | h
    · exact h
    · rw [dup_no hil (fun j hj hji => by rw [his]; exact HN.out j hj (by omega))] at hd; cases hd)
  have HE : Hid (k = i → l[k].name = s) := hi_ (by
   obtain ⟨hil, his⟩ := HI.out
   rintro rfl; exact his)
  have HN2 : Hid (l[k].name ≠ s → ∀ j (hj : j < l.length), j < k + 1 → l[j].name ≠ s) := hi_ (fun hne j hj hjk => by
   rcases Nat.lt_succ_iff_lt_or_eq.1 hjk with h1 | rfl
   · exact HN.out j hj h1
   · exact hne)
  generalize l[k].name = t at *
  by_cases ht : t = s
  ·
   have HQ := hi_ (HS.out ht)
   have ht' := toList_true ht
   clear ht HS HE HN2
   go_wp2
   go_ret2
   exact ⟨k, rfl, HQ.out, hk, below_step HW.out HB⟩
  ·
   have hki : k < i := by
    rcases Nat.lt_or_ge k i with h | h
    · exact h
    · exact absurd (HE.out (by omega)) ht
   have ht' := toList_false ht
   have HN3 := hi_ (HN2.out ht)
   clear ht HS HE HN2
   go_wp2
   go_roundw
   case rel => exact ⟨k + 1, by omega, by go_num, HN3, HB⟩
   case measure => simp [intOf]; omega
theorem widthSum_step {l : List FieldD} {k : Nat} (h : k < l.length) : widthSum (l.take (k + 1)) = widthSum (l.take k) + l[k].width := by
 rw [List.take_succ_eq_append_getElem h]
 simp only [widthSum, List.map_append, List.sum_append, List.map_cons, List.map_nil, List.sum_cons, List.sum_nil]
 omega
theorem rhdr_any (h : HeaderD) (w : World) (o : HeaderOk w h) :
  Calls Tryz.prog 111 #[.agg #[.string h.name, .slice h.fields.A h.fields.l.length h.fields.c]] w fun e w' => e = .returned (.int .i64 (hdrM h)) ∧ Below w.heap.size w w' := by
 obtain ⟨nm, ⟨l, A0, c0⟩⟩ := h
 have HS : Hid (nm.size ≤ maxLen) := hi_ o.name
 have HN : Hid (∀ f ∈ l, f.name.size ≤ maxLen) := hi_ o.names
 have HR := hi_ (hdrM_eq ⟨nm, ⟨l, A0, c0⟩⟩)
 obtain ⟨W, hW, hw, HB, hp⟩ := box1 w #[.string nm, .slice A0 l.length c0] 98
 have HW := hi_ hw
 have HX := hi_ (o.fields.below hw (Nat.le_refl _))
 have HB0 := hi_ HB
 simp only at HR ⊢
 clear o hw
 by_cases h0 : l.length = 0
 ·
  have h0' : ((l.length : Int) == 0) = true := by rw [beq_iff_eq]; omega
  have HR2 : Hid (hdrM ⟨nm, ⟨l, A0, c0⟩⟩ = if ident nm = false then 6 else 8) := hi_ (by rw [HR.out, if_pos h0])
  clear h0
  go_enter Tryz.func111, Tryz.ntmps111
  go_upto_region 1 with fail
  rw [← hW]
  clear hW
  go_wp2_with fail
  refine (risIdent_any nm _ HS.out).mono ?_
  rintro e w' ⟨rfl, rfl⟩
  cases h1 : identM nm.data.toList
  ·
   have HR3 := tr_ HR2 (if_pos (show ident nm = false from h1))
   go_wp2
   go_ret
   exact ⟨by rw [HR3.out]; rfl, below_step HW.out HB⟩
  ·
   have HR3 := tr_ HR2 (if_neg (show ¬ ident nm = false by rw [show ident nm = true from h1]; simp))
   go_wp2
   go_ret
   exact ⟨by rw [HR3.out]; rfl, below_step HW.out HB⟩
 have h0' : ((l.length : Int) == 0) = false := by rw [beq_eq_false_iff_ne]; omega
 obtain ⟨g, of, hA, hall⟩ := FieldD.allA HX.out (show 0 < l.length by omega)
 have HAL := hi_ hall
 simp only at hA
 subst hA
 go_enter Tryz.func111, Tryz.ntmps111
 go_upto_region 1 with fail
 rw [← hW]
 clear hW hall
 go_wp2_with fail
 refine (risIdent_any nm _ HS.out).mono ?_
 rintro e w' ⟨rfl, rfl⟩
 cases h1 : identM nm.data.toList
 ·
  have HR3 := tr_ HR (if_pos (show ident nm = false from h1))
  go_wp2
  go_ret
  exact ⟨by rw [HR3.out]; rfl, below_step HW.out HB⟩
 replace HR := hi_ (HR.out.trans ((if_neg (show ¬ ident nm = false by rw [show ident nm = true from h1]; simp)).trans (if_neg h0)))
 clear h0 h1
 by_cases h12 : 12 < l.length
 ·
  have HR3 := tr_ HR (if_pos h12)
  go_wp2
  go_ret
  exact ⟨by rw [HR3.out]; rfl, below_step HW.out HB⟩
 replace HR := tr_ HR (if_neg h12)
 have h12' : l.length ≤ 12 := by omega
 clear h12
 go_wp2
 clear HB
 go_loopw [3, 4] (fun nv iv wr => ∃ (k : Nat) (n : Int), k ≤ l.length ∧ iv = .int .i64 k ∧ nv = .int .i64 n ∧ 0 ≤ n ∧ n ≤ 32 * (k : Int) ∧ Hid (widthSum (l.take k) = n) ∧ (∀ j, j < k → fldM l j = none) ∧ Below W.heap.size W wr) (fun _ i _ => l.length - (intOf i).toNat)
 case atStart => exact ⟨0, 0, Nat.zero_le _, rfl, rfl, by omega, by omega, hi_ (by simp [widthSum]), fun j h => absurd h (Nat.not_lt_zero _), HB0.out⟩
 case round =>
  obtain ⟨k, n, hk, rfl, rfl, hn0, hn1, HSum, hpre, HB⟩ := hrel
  have HPre := hi_ hpre
  clear hpre
  by_cases hlt : k < l.length
  ·
   obtain ⟨d0, d1⟩ := HAL.out wr HB k hlt
   have HF := hi_ (fldM_at l k hlt)
   have HNk := hi_ (HN.out _ (List.getElem_mem hlt))
   have HSt : Hid (widthSum (l.take (k + 1)) = n + l[k].width) := hi_ (by rw [widthSum_step hlt, HSum.out])
   have HFx : Hid (∀ u, Below wr.heap.size wr u → _) := hi_ (fun u hb => findex_any nm ⟨l, some ⟨g, of, none⟩, c0⟩ k l[k].name u (HX.out.below (below_step HB hb) (Nat.le_refl _)) hlt rfl)
   generalize l[k] = y at *
   obtain ⟨yn, yw⟩ := y
   simp only at HF HNk d0 d1 HSt HFx
   refine Exists.elim (box1 wr #[.string yn, .int .i64 yw] 104) ?_
   rintro U ⟨hU, hu, hUU, hbx⟩
   have HU := hi_ (below_step HB hu)
   have HFy := hi_ (HFx.out U hu)
   go_upto_region 12 with fail
   rw [← hU]
   clear hU hu d0 d1 HB HFx
   have HB := hUU
   have hq := fun w' (h : Below U.heap.size U w') => hp w' (below_step HU.out h)
   clear hp hUU
   go_wp2_with fail
   refine HFy.out.mono ?_
   rintro e w2 ⟨j, rfl, hj, hjk, hbN⟩
   replace HB := below_step HB hbN
   have HJ := hi_ hj
   clear hbN hj HFy
   go_wp2_with fail
   refine (risIdent_any yn _ HNk.out).mono ?_
   rintro e w' ⟨rfl, rfl⟩
   cases h1 : identM yn.data.toList
   ·
    have HE := tr_ HF (if_pos (show ident yn = false from h1))
    have HR2 := hi_ (HR.out.trans (show _ = (6 : Int) by rw [firstE_some hlt HPre.out HE.out]))
    go_wp2
    go_ret
    exact ⟨by rw [HR2.out]; rfl, below_step HW.out (below_step HU.out HB)⟩
   have HF1 := tr_ HF (if_neg (show ¬ ident yn = false by rw [show ident yn = true from h1]; simp))
   clear HF h1
   cases h2 : okW yw
   ·
    have HE := tr_ HF1 (if_pos h2)
    have HR2 := hi_ (HR.out.trans (show _ = (10 : Int) by rw [firstE_some hlt HPre.out HE.out]))
    have h3 : yw < 1 ∨ (1 ≤ yw ∧ 32 < yw) := by have := okW_not.1 h2; omega
    rcases h3 with h3 | ⟨h3, h4⟩
    all_goals
     go_wp2
     go_ret
     exact ⟨by rw [HR2.out]; rfl, below_step HW.out (below_step HU.out HB)⟩
   have HF2 := tr_ HF1 (if_neg (by rw [h2]; simp))
   clear HF1
   obtain ⟨yw1, yw2⟩ := okW_iff.1 h2
   clear h2
   by_cases hjl : j < k
   ·
    have HE := tr_ HF2 (if_pos (HJ.out.1 hjl))
    have HR2 := hi_ (HR.out.trans (show _ = (7 : Int) by rw [firstE_some hlt HPre.out HE.out]))
    have hjl' : (j : Int) < (k : Int) := by omega
    clear hjl
    go_wp2
    go_ret
    exact ⟨by rw [HR2.out]; rfl, below_step HW.out (below_step HU.out HB)⟩
   ·
    have HE := tr_ HF2 (if_neg (fun e => hjl (HJ.out.2 e)))
    have hjl' : ¬ (j : Int) < (k : Int) := by omega
    have hwr : IntKind.i64.wrap (n + yw) = n + yw := IntWalk.i64_in _ (by omega)
    clear hjl
    go_wp2
    go_roundw
    case rel => exact ⟨k + 1, n + yw, by omega, by go_num, by go_num, by omega, by omega, HSt, firstE_step HPre.out HE.out, below_step HU.out HB⟩
    case measure => simp [intOf]; omega
  ·
   have e : k = l.length := by omega
   have hpre := HPre.out
   rw [e] at hpre
   have HR2 := hi_ (HR.out.trans (show _ = (if Int.tmod n 8 ≠ 0 then (10 : Int) else 0) by
    have h := HSum.out
    rw [e, List.take_length] at h
    rw [firstE_none hpre, h]))
   clear e hpre HPre
   rw [Int.tmod_eq_emod_of_nonneg hn0] at HR2
   by_cases h8 : n % 8 = 0
   ·
    have HR3 := tr_ HR2 (if_neg (fun h => h h8))
    have h8' : (n % 8 == 0) = true := beq_iff_eq.2 h8
    clear h8
    go_wp2
    go_ret
    exact ⟨by rw [HR3.out]; rfl, below_step HW.out HB⟩
   ·
    have HR3 := tr_ HR2 (if_pos h8)
    have h8' : (n % 8 == 0) = false := bf_ h8
    clear h8
    go_wp2
    go_ret
    exact ⟨by rw [HR3.out]; rfl, below_step HW.out HB⟩
theorem rreg_any (r : RegD) (hn : r.name.size ≤ maxLen) (w : World) :
  Calls Tryz.prog 113 #[.agg #[.string r.name, .int .i64 r.width, .int .i64 r.size]] w fun e w' => e = .returned (.int .i64 (regM r)) ∧ Below w.heap.size w w' := by
 obtain ⟨nm, wd, sz⟩ := r
 have HS := hi_ hn
 have HR := hi_ (regM.eq_1 ⟨nm, wd, sz⟩)
 simp only at HR HS ⊢
 clear hn
 obtain ⟨W, hW, hw, HB, hp⟩ := box1 w #[.string nm, .int .i64 wd, .int .i64 sz] 100
 have HW := hi_ hw
 clear hw
 go_enter Tryz.func113, Tryz.ntmps113
 go_upto_region 1 with fail
 rw [← hW]
 clear hW
 go_wp2_with fail
 refine (risIdent_any nm _ HS.out).mono ?_
 rintro e w' ⟨rfl, rfl⟩
 cases h1 : identM nm.data.toList
 ·
  have HR3 := tr_ HR (if_pos (show ident nm = false from h1))
  go_wp2
  go_ret
  exact ⟨by rw [HR3.out]; rfl, below_step HW.out HB⟩
 have HR1 := tr_ HR (if_neg (show ¬ ident nm = false by rw [show ident nm = true from h1]; simp))
 clear h1 HR
 by_cases k1 : wd < 1
 ·
  have HR3 := tr_ HR1 (if_pos (okW_not.2 (.inl k1)))
  go_wp2
  go_ret
  exact ⟨by rw [HR3.out]; rfl, below_step HW.out HB⟩
 by_cases k2 : 32 < wd
 ·
  have HR3 := tr_ HR1 (if_pos (okW_not.2 (.inr k2)))
  go_wp2
  go_ret
  exact ⟨by rw [HR3.out]; rfl, below_step HW.out HB⟩
 have HR2 := tr_ HR1 (if_neg (by rw [okW_iff.2 ⟨by omega, by omega⟩]; simp))
 clear HR1
 by_cases k3 : sz < 1
 ·
  have HR3 := tr_ HR2 (if_pos (.inl k3))
  go_wp2
  go_ret
  exact ⟨by rw [HR3.out]; rfl, below_step HW.out HB⟩
 by_cases k4 : 64 < sz
 ·
  have HR3 := tr_ HR2 (if_pos (.inr k4))
  go_wp2
  go_ret
  exact ⟨by rw [HR3.out]; rfl, below_step HW.out HB⟩
 have HR3 := tr_ HR2 (if_neg (fun h => h.elim k3 k4))
 go_wp2
 go_ret
 exact ⟨by rw [HR3.out]; rfl, below_step HW.out HB⟩
theorem dup_tells {α : Type} {f : α → ByteArray} {l : List α} {i : Nat} (hi : i < l.length) :
  (∀ j (hj : j < l.length), j < i → f l[j] = f l[i] → dupB (l.map f) i = true) ∧ ((∀ j (hj : j < l.length), j < i → f l[j] ≠ f l[i]) → dupB (l.map f) i = false) := by
 have hi' : i < (l.map f).length := by rw [List.length_map]; exact hi
 constructor
 ·
  intro j hj hji e
  exact (dupB_iff hi').2 ⟨j, by rw [List.length_map]; exact hj, hji, by simpa using e⟩
 ·
  intro h
  rw [← Bool.not_eq_true, dupB_iff hi']
  rintro ⟨k, hk, hki, e⟩
  rw [List.length_map] at hk
  exact h k hk hki (by simpa using e)
def fldsM (l : List FieldD) : Int := match firstE l.length (fldM l) with
 | some e => e
 | none => 0
theorem fldsM_some {l : List FieldD} {r : Int} {i : Nat} (hi : i < l.length) (h : ∀ j, j < i → fldM l j = none) (hr : fldM l i = some r) : fldsM l = r := by
 rw [fldsM, firstE_some hi h hr]
theorem fldsM_none {l : List FieldD} (h : ∀ j, j < l.length → fldM l j = none) : fldsM l = 0 := by
 rw [fldsM, firstE_none h]
theorem pre_step {α : Type} {f : Nat → Option α} {i : Nat} (h : ∀ j, j < i → f j = none) (hi : f i = none) : ∀ j, j < i + 1 → f j = none := fun j hj => by
 rcases Nat.lt_succ_iff_lt_or_eq.1 hj with h1 | rfl
 · exact h j h1
 · exact hi
theorem pre_ne {α : Type} {f : Nat → α → Prop} {l : List α} {k : Nat} (h : ∀ j (hj : j < l.length), j < k → f j l[j]) {hk : k < l.length} (hn : f k l[k]) : ∀ j (hj : j < l.length), j < k + 1 → f j l[j] := fun j hj hjk => by
 rcases Nat.lt_succ_iff_lt_or_eq.1 hjk with h1 | rfl
 · exact h j hj h1
 · exact hn
theorem rparams_any (x : L FieldD) (w : World) (h : LOk w 2 FieldD.cells x) (hn : ∀ f ∈ x.l, f.name.size ≤ maxLen) :
  Calls Tryz.prog 177 #[.slice x.A x.l.length x.c] w fun e w' => e = .returned (.int .i64 (fldsM x.l)) ∧ Below w.heap.size w w' := by
 obtain ⟨l, A0, c0⟩ := x
 have HX := hi_ h
 have HN := hi_ hn
 have hmx : l.length ≤ 9223372036854775807 := h.1
 clear h hn
 simp only at *
 go_enter Tryz.func177, Tryz.ntmps177
 go_wp2
 go_loopw [3] (fun iv wr => ∃ i : Nat, i ≤ l.length ∧ iv = .int .i64 i ∧ (∀ j, j < i → fldM l j = none) ∧ Below w.heap.size w wr) (fun i _ => l.length - (intOf i).toNat)
 case atStart => exact ⟨0, Nat.zero_le _, rfl, fun j hj => absurd hj (Nat.not_lt_zero _), Below.refl _ _⟩
 case round =>
 obtain ⟨i, hi, rfl, hpre, HB⟩ := hrel
 have HPre := hi_ hpre
 clear hpre
 by_cases hlt : i < l.length
 ·
  obtain ⟨g, of, hA, hall⟩ := FieldD.allA HX.out (show 0 < l.length by omega)
  simp only at hA hall
  subst hA
  have HAL := hi_ hall
  have HALi := hi_ (fun w' h => hall w' h i hlt)
  have HF := hi_ (fldM_at l i hlt)
  have HNk := hi_ (HN.out _ (List.getElem_mem hlt))
  have HD := hi_ (dup_tells (f := FieldD.name) hlt)
  clear hall
  generalize l[i] = y at *
  obtain ⟨yn, yw⟩ := y
  simp only at HALi HF HNk HD
  obtain ⟨d0, d1⟩ := HALi.out wr HB
  go_wp2_with fail
  refine (risIdent_any yn _ HNk.out).mono ?_
  rintro e w' ⟨rfl, rfl⟩
  cases h1 : identM yn.data.toList
  ·
   have HE := tr_ HF (if_pos (show ident yn = false from h1))
   have HR := hi_ (fldsM_some hlt HPre.out HE.out)
   go_wp2
   go_ret
   exact ⟨by rw [HR.out]; rfl, HB⟩
  have HF1 := tr_ HF (if_neg (show ¬ ident yn = false by rw [show ident yn = true from h1]; simp))
  clear HF h1
  by_cases k1 : yw < 1
  ·
   have HR := hi_ (fldsM_some hlt HPre.out (HF1.out.trans (if_pos (okW_not.2 (.inl k1)))))
   go_wp2
   go_ret
   exact ⟨by rw [HR.out]; rfl, HB⟩
  by_cases k2 : 32 < yw
  ·
   have HR := hi_ (fldsM_some hlt HPre.out (HF1.out.trans (if_pos (okW_not.2 (.inr k2)))))
   go_wp2
   go_ret
   exact ⟨by rw [HR.out]; rfl, HB⟩
  have HF2 := tr_ HF1 (if_neg (by rw [okW_iff.2 ⟨by omega, by omega⟩]; simp))
  clear HF1
  go_wp2
  have HB0 := hi_ HB
  clear HB d0 d1
  go_loopw [4] (fun iv wr => ∃ k : Nat, k ≤ i ∧ iv = .int .i64 k ∧ Hid (∀ j (hj : j < l.length), j < k → l[j].name ≠ yn) ∧ Below w.heap.size w wr) (fun k _ => i - (intOf k).toNat)
  case atStart => exact ⟨0, Nat.zero_le _, rfl, hi_ (fun j _ hj => absurd hj (Nat.not_lt_zero _)), HB0.out⟩
  case round =>
  clear HB0
  obtain ⟨k, hk, rfl, HK, HB⟩ := hrel
  obtain ⟨d0, d1⟩ := HALi.out _ HB
  by_cases hki : k < i
  ·
   have hkl : k < l.length := by omega
   obtain ⟨e0, e1⟩ := HAL.out _ HB k hkl
   have HY : Hid (l[k].name = yn → dupB (l.map FieldD.name) i = true) := hi_ (fun e => HD.out.1 k hkl hki e)
   have HZ : Hid (l[k].name ≠ yn → ∀ j (hj : j < l.length), j < k + 1 → l[j].name ≠ yn) := hi_ (fun hne => pre_ne (f := fun _ (a : FieldD) => a.name ≠ yn) HK.out hne)
   generalize l[k].name = t at *
   by_cases ht : t = yn
   ·
    have HR := hi_ (fldsM_some hlt HPre.out (HF2.out.trans (if_pos (HY.out ht))))
    have ht' := toList_true ht
    clear ht HY HZ
    go_wp2
    go_quiet (fail)
    go_wp2
    go_ret
    exact ⟨by rw [HR.out]; rfl, below_drewN HB _⟩
   ·
    have HZ2 := hi_ (HZ.out ht)
    have ht' := toList_false ht
    clear ht HY HZ
    go_wp2
    go_quiet (fail)
    go_wp2
    go_roundw
    case rel => exact ⟨k + 1, by omega, by go_num, HZ2, below_drewN HB _⟩
    case measure => simp [intOf]; omega
  ·
   have e : k = i := by omega
   subst e
   have HE := tr_ HF2 (if_neg (by rw [HD.out.2 HK.out]; simp))
   have HP2 := hi_ (pre_step HPre.out HE.out)
   go_wp2
   go_roundw
   case rel => exact ⟨k + 1, by omega, by go_num, HP2.out, HB⟩
   case measure => simp [intOf]; omega
 ·
  have e : i = l.length := by omega
  subst e
  have HR := hi_ (fldsM_none HPre.out)
  go_wp2
  go_ret
  exact ⟨by rw [HR.out]; rfl, HB⟩
theorem rsized_any (p : ProgD) (ps : L FieldD) (x : L NodeD) (n : Int) (w : World) (o : ProgOk w p) (hps : LOk w 2 FieldD.cells ps) (hx : LOk w 3 NodeD.cells x) :
  Calls Tryz.prog 234 #[.slice x.A x.l.length x.c, .agg (scopeCells p ps), .int .i64 n] w fun e w' => e = .returned (.int .i64 (sizedM p ps.l x.l n)) ∧ Below w.heap.size w w' := by
 have HO := hi_ o
 have HP := hi_ hps
 have HX := hi_ hx
 clear o hps hx
 obtain ⟨W, hW, hw, HB, hp⟩ := box1 w (scopeCells p ps) 233
 have HW := hi_ hw
 have HR := hi_ (sizedM.eq_1 p ps.l x.l n)
 clear hw
 go_enter Tryz.func234, Tryz.ntmps234
 go_upto_region 1 with fail
 rw [← hW]
 clear hW
 go_wp2_with fail
 refine (rexprCheck_any p ps x _ (HO.out.below (below_step HW.out (by first | exact HB | exact ba1 HB | exact ba2 HB | exact ba3 HB))) (HP.out.below (below_step HW.out (by first | exact HB | exact ba1 HB | exact ba2 HB | exact ba3 HB)) (Nat.le_refl _)) (HX.out.below (below_step HW.out (by first | exact HB | exact ba1 HB | exact ba2 HB | exact ba3 HB)) (Nat.le_refl _))).mono ?_
 rintro e w1 ⟨rfl, hbN⟩
 replace HB := below_step (by first | exact HB | exact ba1 HB | exact ba2 HB | exact ba3 HB) hbN
 clear hbN
 generalize exprM p ps.l x.l = r at *
 obtain ⟨a, c⟩ := r
 simp only at HR
 by_cases k1 : c = 0
 ·
  subst k1
  by_cases k2 : a = n
  ·
   have HR2 : Hid (sizedM p ps.l x.l n = 0) := hi_ (by rw [HR.out]; simp [k2])
   subst k2
   go_wp2
   go_ret
   exact ⟨by rw [HR2.out]; rfl, below_step HW.out HB⟩
  ·
   have HR2 : Hid (sizedM p ps.l x.l n = 10) := hi_ (by rw [HR.out]; simp [k2])
   have k2' : (a == n) = false := bf_ k2
   clear k2
   go_wp2
   go_ret
   exact ⟨by rw [HR2.out]; rfl, below_step HW.out HB⟩
 ·
  have HR2 : Hid (sizedM p ps.l x.l n = c) := hi_ (by rw [HR.out]; simp [k1])
  have k1' : (c == 0) = false := bf_ k1
  clear k1
  go_wp2
  go_ret
  exact ⟨by rw [HR2.out]; rfl, below_step HW.out HB⟩
theorem rdecl_any (p : ProgD) (h f : Int) (w : World) (o : ProgOk w p) :
  Calls Tryz.prog 233 #[.agg (progCells p), .agg #[.int .i64 h, .int .i64 f]] w fun e w' => e = .returned (widthV (declM p h f)) ∧ Below w.heap.size w w' := by
 refine (rdeclared_any p h f w o).mono ?_
 rintro e w' ⟨rfl, hb⟩
 refine ⟨?_, hb⟩
 unfold declM
 cases declF p h f <;> rfl
theorem rst_assign (p : ProgD) (ps : L FieldD) (kind dh df rg hd : Int) (ix vl : L NodeD) (w : World) (o : ProgOk w p) (hps : LOk w 2 FieldD.cells ps) (os : StmtOk w ⟨kind, dh, df, rg, hd, ix, vl⟩) (hk : kind = 1) :
  Calls Tryz.prog 178 #[.agg (progCells p), .agg (stmtCells ⟨kind, dh, df, rg, hd, ix, vl⟩), .agg (scopeCells p ps)] w fun e w' => e = .returned (.int .i64 (stmtM p ps.l ⟨kind, dh, df, rg, hd, ix, vl⟩)) ∧ Below w.heap.size w w' := by
 have HO := hi_ o
 have HP := hi_ hps
 have HX := hi_ os.index
 have HV := hi_ os.value
 clear o hps os
 obtain ⟨W, hW, hw, HB, hp⟩ := box3 w (progCells p) 31 (stmtCells ⟨kind, dh, df, rg, hd, ix, vl⟩) 96 (scopeCells p ps) 233
 have HW := hi_ hw
 clear hw
 have HR := hi_ (stmtM.eq_1 p ps.l ⟨kind, dh, df, rg, hd, ix, vl⟩)
 simp only at HX HV
 subst hk
 replace HR := tr_ HR (if_pos rfl)
 have hr : rg < 0 ∨ (0 ≤ rg ∧ rg < p.registers.l.length) ∨ (0 ≤ rg ∧ ¬ rg < (p.registers.l.length : Int)) := by omega
 rcases hm : declM p dh df with _ | wd
 ·
  replace HR : Hid (stmtM p ps.l ⟨1, dh, df, rg, hd, ix, vl⟩ = 8) := hi_ (by rw [HR.out]; simp only [hm])
  rcases hr with hr | ⟨hr, hr2⟩ | ⟨hr, hr2⟩
  all_goals
   go_enter Tryz.func178, Tryz.ntmps178
   go_upto_region 1 with fail
   rw [← hW]
   clear hW
   go_wp2_with fail
   refine (rdecl_any p dh df _ (HO.out.below (below_step HW.out (by first | exact HB | exact ba1 HB | exact ba2 HB | exact ba3 HB)))).mono ?_
   rintro e w1 ⟨rfl, hbN⟩
   replace HB := below_step (by first | exact HB | exact ba1 HB | exact ba2 HB | exact ba3 HB) hbN
   clear hbN
   rw [hm]
   simp only [widthV, Option.getD_none, Option.isSome_none]
   go_wp2
   go_ret
   exact ⟨by rw [HR.out]; rfl, below_step HW.out HB⟩
 ·
  replace HR : Hid (stmtM p ps.l ⟨1, dh, df, rg, hd, ix, vl⟩ = sizedM p ps.l vl.l wd) := hi_ (by rw [HR.out]; simp only [hm])
  rcases hr with hr | ⟨hr, hr2⟩ | ⟨hr, hr2⟩
  all_goals
   go_enter Tryz.func178, Tryz.ntmps178
   go_upto_region 1 with fail
   rw [← hW]
   clear hW
   go_wp2_with fail
   refine (rdecl_any p dh df _ (HO.out.below (below_step HW.out (by first | exact HB | exact ba1 HB | exact ba2 HB | exact ba3 HB)))).mono ?_
   rintro e w1 ⟨rfl, hbN⟩
   replace HB := below_step (by first | exact HB | exact ba1 HB | exact ba2 HB | exact ba3 HB) hbN
   clear hbN
   rw [hm]
   simp only [widthV, Option.getD_some, Option.isSome_some]
   go_wp2_with fail
   refine (rsized_any p ps vl wd _ (HO.out.below (below_step HW.out (by first | exact HB | exact ba1 HB | exact ba2 HB | exact ba3 HB))) (HP.out.below (below_step HW.out (by first | exact HB | exact ba1 HB | exact ba2 HB | exact ba3 HB)) (Nat.le_refl _)) (HV.out.below (below_step HW.out (by first | exact HB | exact ba1 HB | exact ba2 HB | exact ba3 HB)) (Nat.le_refl _))).mono ?_
   rintro e w2 ⟨rfl, hbN⟩
   replace HB := below_step (by first | exact HB | exact ba1 HB | exact ba2 HB | exact ba3 HB) hbN
   clear hbN
   go_wp2
   go_ret
   exact ⟨by rw [HR.out]; rfl, below_step HW.out HB⟩
theorem rst_hdr (p : ProgD) (ps : L FieldD) (kind dh df rg hd : Int) (ix vl : L NodeD) (w : World) (o : ProgOk w p) (hps : LOk w 2 FieldD.cells ps) (os : StmtOk w ⟨kind, dh, df, rg, hd, ix, vl⟩) (hk : kind = 2 ∨ kind = 3) :
  Calls Tryz.prog 178 #[.agg (progCells p), .agg (stmtCells ⟨kind, dh, df, rg, hd, ix, vl⟩), .agg (scopeCells p ps)] w fun e w' => e = .returned (.int .i64 (stmtM p ps.l ⟨kind, dh, df, rg, hd, ix, vl⟩)) ∧ Below w.heap.size w w' := by
 have HO := hi_ o
 have HP := hi_ hps
 have HX := hi_ os.index
 have HV := hi_ os.value
 clear o hps os
 obtain ⟨W, hW, hw, HB, hp⟩ := box3 w (progCells p) 31 (stmtCells ⟨kind, dh, df, rg, hd, ix, vl⟩) 96 (scopeCells p ps) 233
 have HW := hi_ hw
 clear hw
 have HR := hi_ (stmtM.eq_1 p ps.l ⟨kind, dh, df, rg, hd, ix, vl⟩)
 simp only at HX HV
 have hr : rg < 0 ∨ (0 ≤ rg ∧ rg < p.registers.l.length) ∨ (0 ≤ rg ∧ ¬ rg < (p.registers.l.length : Int)) := by omega
 replace HR := hi_ (HR.out.trans ((if_neg (show ¬ kind = 1 by omega)).trans (if_pos hk)))
 have hh : hd < 0 ∨ (0 ≤ hd ∧ (p.headers.l.length : Int) ≤ hd) ∨ (0 ≤ hd ∧ hd < p.headers.l.length) := by omega
 rcases hh with hh | ⟨hh, hh2⟩ | ⟨hh, hh2⟩
 all_goals
  first
   | replace HR := tr_ HR (if_pos (Or.inl hh))
   | replace HR := tr_ HR (if_pos (Or.inr hh2))
   | replace HR := hi_ (HR.out.trans (if_neg (show ¬ (hd < 0 ∨ (p.headers.l.length : Int) ≤ hd) by omega)))
  rcases hk with rfl | rfl
  all_goals
   rcases hr with hr | ⟨hr, hr2⟩ | ⟨hr, hr2⟩
   all_goals
    go_enter Tryz.func178, Tryz.ntmps178
    go_upto_region 1 with fail
    rw [← hW]
    clear hW
    go_wp2_with fail
    refine (rdecl_any p dh df _ (HO.out.below (below_step HW.out (by first | exact HB | exact ba1 HB | exact ba2 HB | exact ba3 HB)))).mono ?_
    rintro e w1 ⟨rfl, hbN⟩
    replace HB := below_step (by first | exact HB | exact ba1 HB | exact ba2 HB | exact ba3 HB) hbN
    clear hbN
    simp only [widthV]
    go_wp2
    go_ret
    exact ⟨by rw [HR.out]; rfl, below_step HW.out HB⟩
theorem rst_other (p : ProgD) (ps : L FieldD) (kind dh df rg hd : Int) (ix vl : L NodeD) (w : World) (o : ProgOk w p) (hps : LOk w 2 FieldD.cells ps) (os : StmtOk w ⟨kind, dh, df, rg, hd, ix, vl⟩) (h1 : kind ≠ 1) (h2 : kind ≠ 2) (h3 : kind ≠ 3) (h4 : kind ≠ 4) (h5 : kind ≠ 5) :
  Calls Tryz.prog 178 #[.agg (progCells p), .agg (stmtCells ⟨kind, dh, df, rg, hd, ix, vl⟩), .agg (scopeCells p ps)] w fun e w' => e = .returned (.int .i64 (stmtM p ps.l ⟨kind, dh, df, rg, hd, ix, vl⟩)) ∧ Below w.heap.size w w' := by
 have HO := hi_ o
 have HP := hi_ hps
 have HX := hi_ os.index
 have HV := hi_ os.value
 clear o hps os
 obtain ⟨W, hW, hw, HB, hp⟩ := box3 w (progCells p) 31 (stmtCells ⟨kind, dh, df, rg, hd, ix, vl⟩) 96 (scopeCells p ps) 233
 have HW := hi_ hw
 clear hw
 have HR := hi_ (stmtM.eq_1 p ps.l ⟨kind, dh, df, rg, hd, ix, vl⟩)
 simp only at HX HV
 have hr : rg < 0 ∨ (0 ≤ rg ∧ rg < p.registers.l.length) ∨ (0 ≤ rg ∧ ¬ rg < (p.registers.l.length : Int)) := by omega
 replace HR := hi_ (HR.out.trans ((if_neg h1).trans ((if_neg (fun h => h.elim h2 h3)).trans ((if_neg h4).trans (if_neg h5)))))
 have k1 : (kind == 1) = false := bf_ h1
 have k2 : (kind == 2) = false := bf_ h2
 have k3 : (kind == 3) = false := bf_ h3
 have k4 : (kind == 4) = false := bf_ h4
 have k5 : (kind == 5) = false := bf_ h5
 clear h1 h2 h3 h4 h5
 rcases hr with hr | ⟨hr, hr2⟩ | ⟨hr, hr2⟩
 all_goals
  go_enter Tryz.func178, Tryz.ntmps178
  go_upto_region 1 with fail
  rw [← hW]
  clear hW
  go_wp2_with fail
  refine (rdecl_any p dh df _ (HO.out.below (below_step HW.out (by first | exact HB | exact ba1 HB | exact ba2 HB | exact ba3 HB)))).mono ?_
  rintro e w1 ⟨rfl, hbN⟩
  replace HB := below_step (by first | exact HB | exact ba1 HB | exact ba2 HB | exact ba3 HB) hbN
  clear hbN
  simp only [widthV]
  go_wp2
  go_ret
  exact ⟨by rw [HR.out]; rfl, below_step HW.out HB⟩
theorem rst_read (p : ProgD) (ps : L FieldD) (kind dh df rg hd : Int) (ix vl : L NodeD) (w : World) (o : ProgOk w p) (hps : LOk w 2 FieldD.cells ps) (os : StmtOk w ⟨kind, dh, df, rg, hd, ix, vl⟩) (hk : kind = 4) :
  Calls Tryz.prog 178 #[.agg (progCells p), .agg (stmtCells ⟨kind, dh, df, rg, hd, ix, vl⟩), .agg (scopeCells p ps)] w fun e w' => e = .returned (.int .i64 (stmtM p ps.l ⟨kind, dh, df, rg, hd, ix, vl⟩)) ∧ Below w.heap.size w w' := by
 have HO := hi_ o
 have HP := hi_ hps
 have HX := hi_ os.index
 have HV := hi_ os.value
 clear o hps os
 obtain ⟨W, hW, hw, HB, hp⟩ := box3 w (progCells p) 31 (stmtCells ⟨kind, dh, df, rg, hd, ix, vl⟩) 96 (scopeCells p ps) 233
 have HW := hi_ hw
 clear hw
 have HR := hi_ (stmtM.eq_1 p ps.l ⟨kind, dh, df, rg, hd, ix, vl⟩)
 simp only at HX HV
 subst hk
 replace HR := hi_ (HR.out.trans ((if_neg (show ¬ (4 : Int) = 1 by decide)).trans ((if_neg (show ¬ ((4 : Int) = 2 ∨ (4 : Int) = 3) by decide)).trans (if_pos rfl))))
 rcases regAt_cases p rg with ⟨hr, hn⟩ | ⟨k, hk, rfl, hn⟩
 ·
  replace HR : Hid (stmtM p ps.l ⟨4, dh, df, rg, hd, ix, vl⟩ = 8) := hi_ (by rw [HR.out]; simp only [hn])
  clear hn
  have hr : rg < 0 ∨ (0 ≤ rg ∧ decide (rg < (p.registers.l.length : Int)) = false) := by rw [decide_eq_false_iff_not]; omega
  rcases hr with hr | ⟨hr, hr2⟩
  all_goals
   go_enter Tryz.func178, Tryz.ntmps178
   go_upto_region 1 with fail
   rw [← hW]
   clear hW
   go_wp2_with fail
   refine (rdecl_any p dh df _ (HO.out.below (below_step HW.out (by first | exact HB | exact ba1 HB | exact ba2 HB | exact ba3 HB)))).mono ?_
   rintro e w1 ⟨rfl, hbN⟩
   replace HB := below_step (by first | exact HB | exact ba1 HB | exact ba2 HB | exact ba3 HB) hbN
   clear hbN
   rcases hm : declM p dh df with _ | wd
   all_goals
    simp only [widthV, Option.getD_none, Option.isSome_none, Option.getD_some, Option.isSome_some]
    go_wp2
    go_ret
    exact ⟨by rw [HR.out]; rfl, below_step HW.out HB⟩
 rcases hm : declM p dh df with _ | wd
 ·
  replace HR : Hid (stmtM p ps.l ⟨4, dh, df, k, hd, ix, vl⟩ = 8) := hi_ (by rw [HR.out]; simp only [hn, hm])
  go_enter Tryz.func178, Tryz.ntmps178
  go_upto_region 1 with fail
  rw [← hW]
  clear hW
  go_wp2_with fail
  refine (rdecl_any p dh df _ (HO.out.below (below_step HW.out (by first | exact HB | exact ba1 HB | exact ba2 HB | exact ba3 HB)))).mono ?_
  rintro e w1 ⟨rfl, hbN⟩
  replace HB := below_step (by first | exact HB | exact ba1 HB | exact ba2 HB | exact ba3 HB) hbN
  clear hbN
  rw [hm]
  simp only [widthV, Option.getD_none, Option.isSome_none]
  go_wp2
  go_ret
  exact ⟨by rw [HR.out]; rfl, below_step HW.out HB⟩
 obtain ⟨g, of, hA, hq⟩ := RegD.atA (HO.out.registers.below HW.out (Nat.le_refl _)) hk
 have HAA := hi_ hA
 clear hA
 replace HR : Hid (stmtM p ps.l ⟨4, dh, df, k, hd, ix, vl⟩ = if (exprM p ps.l ix.l).2 ≠ 0 then (exprM p ps.l ix.l).2 else if wd ≠ p.registers.l[k].width then 10 else 0) := hi_ (by rw [HR.out]; simp only [hn, hm])
 clear hn
 generalize p.registers.l[k] = y at *
 obtain ⟨yn, yw, ys⟩ := y
 simp only at HR hq
 have hbad : Hid (∀ r : Int × Int, r.2 ≠ 0 → exprM p ps.l ix.l = r → stmtM p ps.l ⟨4, dh, df, k, hd, ix, vl⟩ = r.2) := hi_ (by
  intro r h1 h2
  rw [HR.out, h2, if_pos h1])
 go_enter Tryz.func178, Tryz.ntmps178
 go_upto_region 1 with fail
 rw [← hW]
 clear hW
 go_wp2_with fail
 refine (rdecl_any p dh df _ (HO.out.below (below_step HW.out (by first | exact HB | exact ba1 HB | exact ba2 HB | exact ba3 HB)))).mono ?_
 rintro e w1 ⟨rfl, hbN⟩
 replace HB := below_step (by first | exact HB | exact ba1 HB | exact ba2 HB | exact ba3 HB) hbN
 clear hbN
 rw [hm]
 simp only [widthV, Option.getD_some, Option.isSome_some]
 go_wp2_with fail
 refine (rexprCheck_any p ps ix _ (HO.out.below (below_step HW.out (by first | exact HB | exact ba1 HB | exact ba2 HB | exact ba3 HB))) (HP.out.below (below_step HW.out (by first | exact HB | exact ba1 HB | exact ba2 HB | exact ba3 HB)) (Nat.le_refl _)) (HX.out.below (below_step HW.out (by first | exact HB | exact ba1 HB | exact ba2 HB | exact ba3 HB)) (Nat.le_refl _))).mono ?_
 rintro e w2 ⟨rfl, hbN⟩
 replace HB := below_step (by first | exact HB | exact ba1 HB | exact ba2 HB | exact ba3 HB) hbN
 clear hbN
 generalize hr : exprM p ps.l ix.l = r at *
 obtain ⟨a, c⟩ := r
 simp only at HR
 by_cases k5 : c = 0
 case neg =>
  have k5' : (c == 0) = false := bf_ k5
  have HR2 := hi_ (hbad.out _ k5 rfl)
  go_wp2
  go_ret
  exact ⟨by rw [HR2.out]; rfl, below_step HW.out HB⟩
 subst k5
 have hp2 := fun w' h => hp w' (below_step HB h)
 have hq2 := fun w' h => hq w' (below_step HB h)
 have HVV := hi_ HB
 have H0 := hi_ (Below.refl w2.heap.size w2)
 clear HB hq hp hbad
 have hp3 := hp2 w2 H0.out
 have hq3 := hq2 w2 H0.out
 simp only [progCells, HAA.out] at hp3
 by_cases k6 : wd = yw
 ·
  subst k6
  replace HR := hi_ (HR.out.trans (by simp : _ = (0 : Int)))
  go_wp2
  go_ret
  exact ⟨by rw [HR.out]; rfl, below_step HW.out HVV.out⟩
 ·
  have k6' : (wd == yw) = false := bf_ k6
  replace HR := hi_ (HR.out.trans (by simp [k6] : _ = (10 : Int)))
  go_wp2
  go_ret
  exact ⟨by rw [HR.out]; rfl, below_step HW.out HVV.out⟩
theorem rst_write (p : ProgD) (ps : L FieldD) (kind dh df rg hd : Int) (ix vl : L NodeD) (w : World) (o : ProgOk w p) (hps : LOk w 2 FieldD.cells ps) (os : StmtOk w ⟨kind, dh, df, rg, hd, ix, vl⟩) (hk : kind = 5) :
  Calls Tryz.prog 178 #[.agg (progCells p), .agg (stmtCells ⟨kind, dh, df, rg, hd, ix, vl⟩), .agg (scopeCells p ps)] w fun e w' => e = .returned (.int .i64 (stmtM p ps.l ⟨kind, dh, df, rg, hd, ix, vl⟩)) ∧ Below w.heap.size w w' := by
 have HO := hi_ o
 have HP := hi_ hps
 have HX := hi_ os.index
 have HV := hi_ os.value
 clear o hps os
 obtain ⟨W, hW, hw, HB, hp⟩ := box3 w (progCells p) 31 (stmtCells ⟨kind, dh, df, rg, hd, ix, vl⟩) 96 (scopeCells p ps) 233
 have HW := hi_ hw
 clear hw
 have HR := hi_ (stmtM.eq_1 p ps.l ⟨kind, dh, df, rg, hd, ix, vl⟩)
 simp only at HX HV
 subst hk
 replace HR := hi_ (HR.out.trans ((if_neg (show ¬ (5 : Int) = 1 by decide)).trans ((if_neg (show ¬ ((5 : Int) = 2 ∨ (5 : Int) = 3) by decide)).trans ((if_neg (show ¬ (5 : Int) = 4 by decide)).trans (if_pos rfl)))))
 rcases regAt_cases p rg with ⟨hr, hn⟩ | ⟨k, hk, rfl, hn⟩
 ·
  replace HR : Hid (stmtM p ps.l ⟨5, dh, df, rg, hd, ix, vl⟩ = 8) := hi_ (by rw [HR.out]; simp only [hn])
  clear hn
  have hr : rg < 0 ∨ (0 ≤ rg ∧ decide (rg < (p.registers.l.length : Int)) = false) := by rw [decide_eq_false_iff_not]; omega
  rcases hr with hr | ⟨hr, hr2⟩
  all_goals
   go_enter Tryz.func178, Tryz.ntmps178
   go_upto_region 1 with fail
   rw [← hW]
   clear hW
   go_wp2_with fail
   refine (rdecl_any p dh df _ (HO.out.below (below_step HW.out (by first | exact HB | exact ba1 HB | exact ba2 HB | exact ba3 HB)))).mono ?_
   rintro e w1 ⟨rfl, hbN⟩
   replace HB := below_step (by first | exact HB | exact ba1 HB | exact ba2 HB | exact ba3 HB) hbN
   clear hbN
   simp only [widthV]
   go_wp2
   go_ret
   exact ⟨by rw [HR.out]; rfl, below_step HW.out HB⟩
 obtain ⟨g, of, hA, hq⟩ := RegD.atA (HO.out.registers.below HW.out (Nat.le_refl _)) hk
 have HAA := hi_ hA
 clear hA
 replace HR : Hid (stmtM p ps.l ⟨5, dh, df, k, hd, ix, vl⟩ = if (exprM p ps.l ix.l).2 ≠ 0 then (exprM p ps.l ix.l).2 else sizedM p ps.l vl.l p.registers.l[k].width) := hi_ (by rw [HR.out]; simp only [hn])
 clear hn
 generalize p.registers.l[k] = y at *
 obtain ⟨yn, yw, ys⟩ := y
 simp only at HR hq
 have hbad : Hid (∀ r : Int × Int, r.2 ≠ 0 → exprM p ps.l ix.l = r → stmtM p ps.l ⟨5, dh, df, k, hd, ix, vl⟩ = r.2) := hi_ (by
  intro r h1 h2
  rw [HR.out, h2, if_pos h1])
 go_enter Tryz.func178, Tryz.ntmps178
 go_upto_region 1 with fail
 rw [← hW]
 clear hW
 go_wp2_with fail
 refine (rdecl_any p dh df _ (HO.out.below (below_step HW.out (by first | exact HB | exact ba1 HB | exact ba2 HB | exact ba3 HB)))).mono ?_
 rintro e w1 ⟨rfl, hbN⟩
 replace HB := below_step (by first | exact HB | exact ba1 HB | exact ba2 HB | exact ba3 HB) hbN
 clear hbN
 simp only [widthV]
 go_wp2_with fail
 refine (rexprCheck_any p ps ix _ (HO.out.below (below_step HW.out (by first | exact HB | exact ba1 HB | exact ba2 HB | exact ba3 HB))) (HP.out.below (below_step HW.out (by first | exact HB | exact ba1 HB | exact ba2 HB | exact ba3 HB)) (Nat.le_refl _)) (HX.out.below (below_step HW.out (by first | exact HB | exact ba1 HB | exact ba2 HB | exact ba3 HB)) (Nat.le_refl _))).mono ?_
 rintro e w2 ⟨rfl, hbN⟩
 replace HB := below_step (by first | exact HB | exact ba1 HB | exact ba2 HB | exact ba3 HB) hbN
 clear hbN
 generalize hr : exprM p ps.l ix.l = r at *
 obtain ⟨a, c⟩ := r
 simp only at HR
 by_cases k5 : c = 0
 case neg =>
  have k5' : (c == 0) = false := bf_ k5
  have HR2 := hi_ (hbad.out _ k5 rfl)
  go_wp2
  go_ret
  exact ⟨by rw [HR2.out]; rfl, below_step HW.out HB⟩
 subst k5
 have hp2 := fun w' h => hp w' (below_step HB h)
 have hq2 := fun w' h => hq w' (below_step HB h)
 have HVV := hi_ HB
 have H0 := hi_ (Below.refl w2.heap.size w2)
 clear HB hq hp hbad
 replace HR := hi_ (HR.out.trans (by simp : _ = sizedM p ps.l vl.l yw))
 simp only [progCells, HAA.out] at hp2
 have hn1 : (k : Int) < (p.registers.l.length : Int) := by omega
 have hp3 := hp2 w2 H0.out
 go_wp2
 clear hp3
 go_region_held3 (fun w' => Below w2.heap.size w2 w') (first | exact H0.out | exact below_drew H0.out | (exact below_step (by assumption) (by assumption)) | assumption)
  (first | (go_at_call 234; refine (rsized_any p ps vl yw _ (HO.out.below (below_step HW.out (below_step HVV.out (by assumption)))) (HP.out.below (below_step HW.out (below_step HVV.out (by assumption))) (Nat.le_refl _)) (HV.out.below (below_step HW.out (below_step HVV.out (by assumption))) (Nat.le_refl _))).mono ?_; rintro e w1 ⟨rfl, hb1⟩))
 have HB5 : Hid (Below w2.heap.size w2 _) := hi_ (by assumption)
 go_wp2
 go_ret
 exact ⟨by rw [HR.out]; rfl, below_step HW.out (below_step HVV.out HB5.out)⟩
theorem rstatement_any (p : ProgD) (ps : L FieldD) (s : StmtD) (w : World) (o : ProgOk w p) (hps : LOk w 2 FieldD.cells ps) (os : StmtOk w s) :
  Calls Tryz.prog 178 #[.agg (progCells p), .agg (stmtCells s), .agg (scopeCells p ps)] w fun e w' => e = .returned (.int .i64 (stmtM p ps.l s)) ∧ Below w.heap.size w w' := by
 obtain ⟨kind, dh, df, rg, hd, ix, vl⟩ := s
 by_cases h1 : kind = 1
 · exact rst_assign p ps kind dh df rg hd ix vl w o hps os h1
 by_cases h2 : kind = 2
 · exact rst_hdr p ps kind dh df rg hd ix vl w o hps os (.inl h2)
 by_cases h3 : kind = 3
 · exact rst_hdr p ps kind dh df rg hd ix vl w o hps os (.inr h3)
 by_cases h4 : kind = 4
 · exact rst_read p ps kind dh df rg hd ix vl w o hps os h4
 by_cases h5 : kind = 5
 · exact rst_write p ps kind dh df rg hd ix vl w o hps os h5
 exact rst_other p ps kind dh df rg hd ix vl w o hps os h1 h2 h3 h4 h5
theorem flipC {f : FuncId} {args : Array Value} {w : World} {r : Ending} (h : Calls Tryz.prog f args w fun e w' => e = r ∧ w = w') : Calls Tryz.prog f args w fun e w' => e = r ∧ w' = w := h.mono fun _ _ h => ⟨h.1, h.2.symm⟩
theorem scope_blk {w1 : World} {k : Nat} (h : Blk w1 k 233 #[.string ⟨#[]⟩, .slice none 0 0, .slice none 0 0, .slice none 0 0, .slice none 0 0, .slice none 0 0, .slice none 0 0, .slice none 0 0, .slice none 0 0, .slice none 0 0]) (v0 v1 v2 v3 v4 v5 v6 v7 v8 v9 : Value) :
  Blk ((((((((((w1.setCell ⟨k, 0, none⟩ v0).setCell ⟨k, 1, none⟩ v1).setCell ⟨k, 2, none⟩ v2).setCell ⟨k, 3, none⟩ v3).setCell ⟨k, 4, none⟩ v4).setCell ⟨k, 5, none⟩ v5).setCell ⟨k, 6, none⟩ v6).setCell ⟨k, 7, none⟩ v7).setCell ⟨k, 8, none⟩ v8).setCell ⟨k, 9, none⟩ v9) k 233 #[v0, v1, v2, v3, v4, v5, v6, v7, v8, v9] := by
 have h0 : Blk (w1.setCell ⟨k, 0, none⟩ v0) k 233 #[v0, .slice none 0 0, .slice none 0 0, .slice none 0 0, .slice none 0 0, .slice none 0 0, .slice none 0 0, .slice none 0 0, .slice none 0 0, .slice none 0 0] := h.set_ 0 v0
 clear h
 have h1 : Blk ((w1.setCell ⟨k, 0, none⟩ v0).setCell ⟨k, 1, none⟩ v1) k 233 #[v0, v1, .slice none 0 0, .slice none 0 0, .slice none 0 0, .slice none 0 0, .slice none 0 0, .slice none 0 0, .slice none 0 0, .slice none 0 0] := h0.set_ 1 v1
 clear h0
 have h2 : Blk (((w1.setCell ⟨k, 0, none⟩ v0).setCell ⟨k, 1, none⟩ v1).setCell ⟨k, 2, none⟩ v2) k 233 #[v0, v1, v2, .slice none 0 0, .slice none 0 0, .slice none 0 0, .slice none 0 0, .slice none 0 0, .slice none 0 0, .slice none 0 0] := h1.set_ 2 v2
 clear h1
 have h3 : Blk ((((w1.setCell ⟨k, 0, none⟩ v0).setCell ⟨k, 1, none⟩ v1).setCell ⟨k, 2, none⟩ v2).setCell ⟨k, 3, none⟩ v3) k 233 #[v0, v1, v2, v3, .slice none 0 0, .slice none 0 0, .slice none 0 0, .slice none 0 0, .slice none 0 0, .slice none 0 0] := h2.set_ 3 v3
 clear h2
 have h4 : Blk (((((w1.setCell ⟨k, 0, none⟩ v0).setCell ⟨k, 1, none⟩ v1).setCell ⟨k, 2, none⟩ v2).setCell ⟨k, 3, none⟩ v3).setCell ⟨k, 4, none⟩ v4) k 233 #[v0, v1, v2, v3, v4, .slice none 0 0, .slice none 0 0, .slice none 0 0, .slice none 0 0, .slice none 0 0] := h3.set_ 4 v4
 clear h3
 have h5 : Blk ((((((w1.setCell ⟨k, 0, none⟩ v0).setCell ⟨k, 1, none⟩ v1).setCell ⟨k, 2, none⟩ v2).setCell ⟨k, 3, none⟩ v3).setCell ⟨k, 4, none⟩ v4).setCell ⟨k, 5, none⟩ v5) k 233 #[v0, v1, v2, v3, v4, v5, .slice none 0 0, .slice none 0 0, .slice none 0 0, .slice none 0 0] := h4.set_ 5 v5
 clear h4
 have h6 : Blk (((((((w1.setCell ⟨k, 0, none⟩ v0).setCell ⟨k, 1, none⟩ v1).setCell ⟨k, 2, none⟩ v2).setCell ⟨k, 3, none⟩ v3).setCell ⟨k, 4, none⟩ v4).setCell ⟨k, 5, none⟩ v5).setCell ⟨k, 6, none⟩ v6) k 233 #[v0, v1, v2, v3, v4, v5, v6, .slice none 0 0, .slice none 0 0, .slice none 0 0] := h5.set_ 6 v6
 clear h5
 have h7 : Blk ((((((((w1.setCell ⟨k, 0, none⟩ v0).setCell ⟨k, 1, none⟩ v1).setCell ⟨k, 2, none⟩ v2).setCell ⟨k, 3, none⟩ v3).setCell ⟨k, 4, none⟩ v4).setCell ⟨k, 5, none⟩ v5).setCell ⟨k, 6, none⟩ v6).setCell ⟨k, 7, none⟩ v7) k 233 #[v0, v1, v2, v3, v4, v5, v6, v7, .slice none 0 0, .slice none 0 0] := h6.set_ 7 v7
 clear h6
 have h8 : Blk (((((((((w1.setCell ⟨k, 0, none⟩ v0).setCell ⟨k, 1, none⟩ v1).setCell ⟨k, 2, none⟩ v2).setCell ⟨k, 3, none⟩ v3).setCell ⟨k, 4, none⟩ v4).setCell ⟨k, 5, none⟩ v5).setCell ⟨k, 6, none⟩ v6).setCell ⟨k, 7, none⟩ v7).setCell ⟨k, 8, none⟩ v8) k 233 #[v0, v1, v2, v3, v4, v5, v6, v7, v8, .slice none 0 0] := h7.set_ 8 v8
 clear h7
 have h9 : Blk ((((((((((w1.setCell ⟨k, 0, none⟩ v0).setCell ⟨k, 1, none⟩ v1).setCell ⟨k, 2, none⟩ v2).setCell ⟨k, 3, none⟩ v3).setCell ⟨k, 4, none⟩ v4).setCell ⟨k, 5, none⟩ v5).setCell ⟨k, 6, none⟩ v6).setCell ⟨k, 7, none⟩ v7).setCell ⟨k, 8, none⟩ v8).setCell ⟨k, 9, none⟩ v9) k 233 #[v0, v1, v2, v3, v4, v5, v6, v7, v8, v9] := h8.set_ 9 v9
 clear h8
 exact h9
theorem rscope_any (p : ProgD) (i : Nat) (hi : i < p.actions.l.length) (w : World) (o : ProgOk w p) :
  Calls Tryz.prog 179 #[.agg (progCells p), .int .i64 i] w fun e w' => e = .returned (.agg (scopeCells p p.actions.l[i].params)) ∧ Below w.heap.size w w' := by
 obtain ⟨W, hW, hw, HB, hS, hpq⟩ := boxC w (progCells p) 31 #[.string ⟨#[]⟩, .slice none 0 0, .slice none 0 0, .slice none 0 0, .slice none 0 0, .slice none 0 0, .slice none 0 0, .slice none 0 0, .slice none 0 0, .slice none 0 0] 233
 obtain ⟨g, of, hA, hq⟩ := ActD.atA (o.actions.below hw (Nat.le_refl _)) hi
 have hn1 : (i : Int) < (p.actions.l.length : Int) := by omega
 clear o
 have HQ := hi_ (fun w' h => (hpq w' h).2.2.2.2)
 have hp := fun w' h => (⟨(hpq w' h).1, (hpq w' h).2.1, (hpq w' h).2.2.1, (hpq w' h).2.2.2.1⟩ : _ ∧ _ ∧ _ ∧ _)
 clear hpq
 have HW := hi_ hw
 generalize p.actions.l[i] = a at *
 obtain ⟨an, ⟨pl, pA, pc⟩, ⟨bl, bA, bc⟩⟩ := a
 simp only at hq
 have HAA := hi_ hA
 simp only [progCells, scopeCells, hA] at hp hW ⊢
 clear hA hw hS
 go_enter Tryz.func179, Tryz.ntmps179
 go_upto_region 1 with fail
 rw [← hW]
 clear hW
 have hp3 := hp W HB
 have hq3 := hq W HB
 clear hp hq
 go_region
 go_wp2
 have hb := (scope_blk (HQ.out W HB) (.string p.name) (.slice p.headers.A p.headers.l.length p.headers.c) (.slice p.metadata.A p.metadata.l.length p.metadata.c) (.slice p.registers.A p.registers.l.length p.registers.c) (.slice (some ⟨g, of, none⟩) p.actions.l.length p.actions.c) (.slice p.tables.A p.tables.l.length p.tables.c) (.slice p.states.A p.states.l.length p.states.c) (.slice p.control.A p.control.l.length p.control.c) (.slice p.deparser.A p.deparser.l.length p.deparser.c) (.slice pA pl.length pc)).drew
 refine bodyPost_ret (v := .agg #[.string p.name, .slice p.headers.A p.headers.l.length p.headers.c, .slice p.metadata.A p.metadata.l.length p.metadata.c, .slice p.registers.A p.registers.l.length p.registers.c, .slice (some ⟨g, of, none⟩) p.actions.l.length p.actions.c, .slice p.tables.A p.tables.l.length p.tables.c, .slice p.states.A p.states.l.length p.states.c, .slice p.control.A p.control.l.length p.control.c, .slice p.deparser.A p.deparser.l.length p.deparser.c, .slice pA pl.length pc]) ?_ rfl ?_
 · exact results_cell_row (fn := Tryz.f179) (p := 4) (ty := 233) rfl _ _ (w.heap.size + 1) 233 _ (0, 0) _ rfl hb Tryz.underlying233 rfl (by kernel_rfl)
 ·
  refine ⟨rfl, Below.drew ?_⟩
  (repeat refine Below.setCell ?_ (Nat.le_succ _) _)
  exact below_step HW.out HB
theorem declarM_eq (a : ActD) : declarM a = if ident a.name = false then 6 else if 4 < a.params.l.length ∨ 12 < a.body.l.length then 12 else fldsM a.params.l := rfl
theorem ractionCheck_any (p : ProgD) (i : Nat) (hi : i < p.actions.l.length) (w : World) (o : ProgOk w p) :
    Calls Tryz.prog 114 #[.agg (progCells p), .int .i64 i] w fun e w' => e = .returned (.tuple #[.int .i64 (actM p p.actions.l[i]).1, .int .i64 (actM p p.actions.l[i]).2]) ∧ Below w.heap.size w w' := by
  have HO := hi_ o
  obtain ⟨W, hW, hw, HB, hp⟩ := box1 w (progCells p) 31
  have HW := hi_ hw
  have HA : Hid (ActOk W p.actions.l[i]) := hi_ ((o.act _ (List.getElem_mem hi)).below hw)
  have HR := hi_ (actM_eq p p.actions.l[i])
  have HD := hi_ (declarM_eq p.actions.l[i])
  have HS := hi_ (stAtM_at p p.actions.l[i])
  have hsc := fun u (hb : Below W.heap.size W u) => rscope_any p i hi u (o.below (below_step hw hb))
  obtain ⟨g, of, hA, hq⟩ := ActD.atA (o.actions.below hw (Nat.le_refl _)) hi
  have hn1 : (i : Int) < (p.actions.l.length : Int) := by omega
  clear o hw
  generalize p.actions.l[i] = a at *
  obtain ⟨an, ⟨pl, pA, pc⟩, ⟨bl, bA, bc⟩⟩ := a
  simp only at HR HS hq HD
  have HAA := hi_ hA
  simp only [progCells, hA] at hp hW ⊢
  simp only [progCells, scopeCells, hA] at hsc
  have HSc := hi_ hsc
  clear hA hsc
  have HNm : Hid (an.size ≤ maxLen) := hi_ HA.out.name
  have HPm := hi_ HA.out.params
  have HPn := hi_ HA.out.pnames
  simp only at HPm HPn
  go_enter Tryz.func114, Tryz.ntmps114
  go_upto_region 1 with fail
  rw [← hW]
  clear hW
  refine Exists.elim (box1 W #[.string an, .slice pA pl.length pc, .slice bA bl.length bc] 93) ?_
  rintro U ⟨hU, hu, hUU, hc⟩
  go_upto_region 4 with fail
  rw [← hU]
  clear hU
  have HU := hi_ hu
  have hp2 := fun w' h => hp w' (below_step hu h)
  replace HB := hUU
  clear hp hUU hu hq
  go_wp2_with fail
  refine (risIdent_any an _ HNm.out).mono ?_
  rintro e w' ⟨rfl, rfl⟩
  cases h1 : identM an.data.toList
  · have HD2 := tr_ HD (if_pos (show ident an = false from h1))
    have HR2 : Hid (actM p ⟨an, ⟨pl, pA, pc⟩, ⟨bl, bA, bc⟩⟩ = (-1, 6)) := hi_ (by rw [HR.out, HD2.out]; rfl)
    go_wp2
    go_ret2
    exact ⟨ret_pp HR2.out, below_step HW.out (below_step HU.out HB)⟩
  replace HD := tr_ HD (if_neg (show ¬ ident an = false by rw [show ident an = true from h1]; simp))
  clear h1
  by_cases h2 : 4 < pl.length ∨ 12 < bl.length
  · have HD2 := tr_ HD (if_pos h2)
    have HR2 : Hid (actM p ⟨an, ⟨pl, pA, pc⟩, ⟨bl, bA, bc⟩⟩ = (-1, 12)) := hi_ (by rw [HR.out, HD2.out]; rfl)
    have h2' : 4 < pl.length ∨ (pl.length ≤ 4 ∧ 12 < bl.length) := by omega
    rcases h2' with h2 | ⟨h2, h3⟩
    all_goals
      go_wp2
      go_ret2
      exact ⟨ret_pp HR2.out, below_step HW.out (below_step HU.out HB)⟩
  replace HD := tr_ HD (if_neg h2)
  have h3 : pl.length ≤ 4 := by omega
  have h4 : bl.length ≤ 12 := by omega
  clear h2
  go_wp2_with fail
  refine (rparams_any ⟨pl, pA, pc⟩ _ (HPm.out.below (below_step HU.out (by first | exact HB | exact ba1 HB | exact ba2 HB | exact ba3 HB)) (Nat.le_refl _)) HPn.out).mono ?_
  rintro e w1 ⟨rfl, hbN⟩
  replace HB := below_step (by first | exact HB | exact ba1 HB | exact ba2 HB | exact ba3 HB) hbN
  clear hbN
  have hc3 := hc _ HB
  have HFl := hi_ (fun u (hb : Below U.heap.size U u) => rparams_any ⟨pl, pA, pc⟩ u (HPm.out.below (below_step HU.out hb) (Nat.le_refl _)) HPn.out)
  simp only at HFl HD
  generalize fldsM pl = fe at *
  by_cases k1 : fe = 0
  case neg =>
    have HR2 : Hid (actM p ⟨an, ⟨pl, pA, pc⟩, ⟨bl, bA, bc⟩⟩ = (-1, fe)) := hi_ (by rw [HR.out, HD.out, if_pos k1])
    have k1' : (fe == 0) = false := bf_ k1
    clear k1
    go_wp2_with fail
    refine (HFl.out _ (by first | exact HB | exact ba1 HB | exact ba2 HB | exact ba3 HB)).mono ?_
    rintro e w2 ⟨rfl, hbN⟩
    replace HB := below_step (by first | exact HB | exact ba1 HB | exact ba2 HB | exact ba3 HB) hbN
    clear hbN
    go_wp2
    go_ret2
    exact ⟨ret_pp HR2.out, below_step HW.out (below_step HU.out HB)⟩
  subst k1
  clear HFl
  replace HR : Hid (actM p ⟨an, ⟨pl, pA, pc⟩, ⟨bl, bA, bc⟩⟩ = match firstE bl.length (stAtM p ⟨an, ⟨pl, pA, pc⟩, ⟨bl, bA, bc⟩⟩) with
    | some r => r
    | none => (0, 0)) := hi_ (by rw [HR.out, HD.out]; rfl)
  have HB1 := hi_ HB
  go_wp2
  clear HB hc3
  go_loopw [7, 8] (fun iv _ wr => ∃ k : Nat, k ≤ bl.length ∧ iv = .int .i64 k ∧ (∀ j, j < k → stAtM p ⟨an, ⟨pl, pA, pc⟩, ⟨bl, bA, bc⟩⟩ j = none) ∧ Below U.heap.size U wr) (fun i _ _ => bl.length - (intOf i).toNat)
  case atStart => exact ⟨0, Nat.zero_le _, rfl, fun j h => absurd h (Nat.not_lt_zero _), HB1.out⟩
  case round =>
    clear HB1
    obtain ⟨k, hk2, rfl, hpre, HB⟩ := hrel
    have HPre := hi_ hpre
    clear hpre
    have HAct := HA.out.below (below_step HU.out HB)
    have hc3 := hc _ HB
    by_cases hlt : k < bl.length
    · obtain ⟨g2, of2, hB, hst⟩ := StmtD.atA HAct.body hlt
      have HSO := hi_ (HAct.stmts _ (List.getElem_mem hlt))
      have HS2 := hi_ (HS.out k hlt)
      simp only at hB HSO HS2 hst
      subst hB
      clear HAct
      generalize bl[k] = s at *
      obtain ⟨kind, dh, df, rg, hd, ⟨il, iA, ic⟩, ⟨vl, vA, vc⟩⟩ := s
      have hlt' : (k : Int) < (bl.length : Int) := by omega
      have hp4 := fun w' (h : Below wr.heap.size wr w') => hp2 w' (below_step HB h)
      have hc4 := fun w' (h : Below wr.heap.size wr w') => hc w' (below_step HB h)
      have hSt := fun u (hb : Below wr.heap.size wr u) => rstatement_any p ⟨pl, pA, pc⟩ ⟨kind, dh, df, rg, hd, ⟨il, iA, ic⟩, ⟨vl, vA, vc⟩⟩ u (HO.out.below (below_step HW.out (below_step HU.out (below_step HB hb)))) (HPm.out.below (below_step HU.out (below_step HB hb)) (Nat.le_refl _)) (HSO.out.below hb)
      simp only [progCells, scopeCells, HAA.out] at hSt
      have HSt := hi_ hSt
      have HSc2 := hi_ (fun u (hb : Below wr.heap.size wr u) => HSc.out u (below_step HU.out (below_step HB hb)))
      generalize hsm : stmtM p pl ⟨kind, dh, df, rg, hd, ⟨il, iA, ic⟩, ⟨vl, vA, vc⟩⟩ = sm at *
      have HVV := hi_ HB
      have H0 := hi_ (Below.refl wr.heap.size wr)
      clear HB hp2 hc hSt HSc
      go_wp2
      clear hc3
      go_region_held3 (fun w' => Below wr.heap.size wr w') (first | exact H0.out | exact below_drew H0.out | (exact below_step (by assumption) (by assumption)) | assumption)
        (first | (go_at_call 179; refine (HSc2.out _ (by assumption)).mono ?_; rintro e w1 ⟨rfl, hb1⟩)
               | (go_at_call 178; refine (HSt.out _ (by assumption)).mono ?_; rintro e w1 ⟨rfl, hb1⟩))
      have HB5 : Hid (Below wr.heap.size wr _) := hi_ (by assumption)
      have HB := below_step HVV.out HB5.out
      by_cases k1 : sm = 0
      · subst k1
        have HE := hi_ (firstE_step HPre.out (HS2.out.trans (if_neg (by simp))))
        go_wp2
        go_roundw
        case rel => exact ⟨k + 1, by omega, by go_num, HE.out, HB⟩
        case measure => simp [intOf]; omega
      · have k1' : (sm == 0) = false := bf_ k1
        have HR2 := hi_ (HR.out.trans (show _ = ((k : Int), sm) by rw [firstE_some hlt HPre.out (HS2.out.trans (if_pos k1))]))
        go_wp2
        go_ret2
        exact ⟨ret_pp HR2.out, below_step HW.out (below_step HU.out HB)⟩
    · have e : k = bl.length := by omega
      have HR2 : Hid (actM p ⟨an, ⟨pl, pA, pc⟩, ⟨bl, bA, bc⟩⟩ = (0, 0)) := hi_ (by rw [HR.out, firstE_none (by rw [← e]; exact HPre.out)])
      go_wp2
      go_ret2
      exact ⟨ret_pp HR2.out, below_step HW.out (below_step HU.out HB)⟩
theorem rcheckCall_any (p : ProgD) (ai : Int) (x : L Int) (w : World) (o : ProgOk w p) (hx : LOk w 1 ucell x) (hwf : ∀ v ∈ x.l, (Lit.int .u32 v).wf = true) :
  Calls Tryz.prog 58 #[.agg (progCells p), .agg #[.int .i64 ai, .slice x.A x.l.length x.c]] w fun e w' => e = .returned (.int .i64 (callM p ai x.l)) ∧ Below w.heap.size w w' := by
 obtain ⟨xl, xA, xc⟩ := x
 simp only at hwf ⊢
 have HWF := hi_ hwf
 clear hwf
 have HR := hi_ (callM_eq p ai xl)
 have hcase : ai < 0 ∨ (0 ≤ ai ∧ (p.actions.l.length : Int) ≤ ai) ∨ ∃ k : Nat, ai = k ∧ k < p.actions.l.length := by
  by_cases h : 0 ≤ ai ∧ ai < p.actions.l.length
  · exact .inr (.inr ⟨ai.toNat, by omega, by omega⟩)
  · omega
 rcases hcase with h1 | ⟨h1, h2⟩ | ⟨i, rfl, hi⟩
 ·
  replace HR := tr_ HR (if_pos h1)
  clear o hx
  go_enter Tryz.func58, Tryz.ntmps58
  go_wp2
  go_ret
  exact ⟨by rw [HR.out]; rfl, below2 _ _ _⟩
 ·
  replace HR : Hid (callM p ai xl = 8) := hi_ (by rw [HR.out, if_neg (by omega), List.getElem?_eq_none (by omega)])
  clear o hx
  go_enter Tryz.func58, Tryz.ntmps58
  go_wp2
  go_ret
  exact ⟨by rw [HR.out]; rfl, below2 _ _ _⟩
 have HO := hi_ o
 obtain ⟨W, hW, hw, HB, hp⟩ := box2 w (progCells p) 31 #[.int .i64 (i : Int), .slice xA xl.length xc] 35
 have HW := hi_ hw
 have HA : Hid (ActOk W p.actions.l[i]) := hi_ ((o.act _ (List.getElem_mem hi)).below hw)
 have HX := hi_ (hx.below hw (Nat.le_refl _))
 obtain ⟨g, of, hA, hq⟩ := ActD.atA (o.actions.below hw (Nat.le_refl _)) hi
 have hn1 : (i : Int) < (p.actions.l.length : Int) := by omega
 replace HR := hi_ (HR.out.trans ((if_neg (show ¬ (i : Int) < 0 by omega)).trans (by rw [Int.toNat_natCast, List.getElem?_eq_getElem hi])))
 clear o hw hx
 generalize p.actions.l[i] = a at *
 obtain ⟨an, ⟨pl, pA, pc⟩, ⟨bl, bA, bc⟩⟩ := a
 simp only at HR hq
 simp only [progCells, hA] at hp hW ⊢
 clear hA
 by_cases k1 : xl.length = pl.length
 case neg =>
  replace HR := tr_ HR (if_pos k1)
  have k1' : ((xl.length : Int) == (pl.length : Int)) = false := bf_ (by omega)
  go_enter Tryz.func58, Tryz.ntmps58
  go_upto_region 1 with fail
  rw [← hW]
  clear hW
  go_wp2
  go_ret
  exact ⟨by rw [HR.out]; rfl, below_step HW.out HB⟩
 replace HR := tr_ HR (if_neg (show ¬ xl.length ≠ pl.length from fun h => h k1))
 have k1' : ((xl.length : Int) == (pl.length : Int)) = true := by rw [k1]; simp
 have K1 := hi_ k1
 clear k1
 have hm := HX.out.1
 unfold maxLen at hm
 go_enter Tryz.func58, Tryz.ntmps58
 go_upto_region 1 with fail
 rw [← hW]
 clear hW
 have HW0 := hi_ HB
 go_wp2
 clear HB
 go_loopw [6] (fun iv wr => ∃ k : Nat, k ≤ xl.length ∧ iv = .int .i64 k ∧ (∀ j, j < k → cAtM pl xl j = none) ∧ Below W.heap.size W wr) (fun i _ => xl.length - (intOf i).toNat)
 case atStart => exact ⟨0, Nat.zero_le _, rfl, fun j h => absurd h (Nat.not_lt_zero _), HW0.out⟩
 case round =>
  obtain ⟨k, hk2, rfl, hpre, HB⟩ := hrel
  have HPre := hi_ hpre
  clear hpre
  by_cases hlt : k < xl.length
  ·
   have hlt2 : k < pl.length := by have := K1.out; omega
   obtain ⟨g2, of2, hA2, e0⟩ := ucell_at (HX.out.below HB (Nat.le_refl _)) hlt
   obtain ⟨g3, of3, hA3, f0, f1⟩ := FieldD.at (HA.out.params.below HB (Nat.le_refl _)) hlt2
   have HE := hi_ (cAtM_at pl xl k hlt hlt2)
   have HV := hi_ (HWF.out _ (List.getElem_mem hlt))
   simp only at hA3 f0 f1
   have hj1 : (k : Int) < (pl.length : Int) := by omega
   simp only at hA2
   subst hA2 hA3
   generalize xl[k] = v at *
   generalize pl[k]'hlt2 = y at *
   obtain ⟨yn, yw⟩ := y
   simp only at HE f0 f1
   have hp3 := hp wr HB
   go_wp2
   go_quiet ((go_at_call 124; exact Calls.quiet_of_same (flipC (rfits_any v yw HV.out _))))
   cases hf : fitsM v yw
   ·
    replace HE := tr_ HE (if_pos hf)
    have HR2 := hi_ (HR.out.trans (show _ = (9 : Int) by rw [firstE_some hlt HPre.out HE.out]))
    go_wp2
    go_ret
    exact ⟨by rw [HR2.out]; rfl, below_step HW.out (below_drewN HB _)⟩
   ·
    replace HE := tr_ HE (if_neg (by rw [hf]; simp))
    go_wp2
    go_roundw
    case rel => exact ⟨k + 1, by omega, by go_num, firstE_step HPre.out HE.out, below_drewN HB _⟩
    case measure => simp [intOf]; omega
  ·
   have e : k = xl.length := by omega
   have hj1 : ¬ (k : Int) < (pl.length : Int) := by have := K1.out; omega
   have HR2 := hi_ (HR.out.trans (show _ = (0 : Int) by rw [firstE_none (by rw [← e]; exact HPre.out)]))
   go_wp2
   go_ret
   exact ⟨by rw [HR2.out]; rfl, below_step HW.out HB⟩
theorem rwidth12_any (p : ProgD) (h f : Int) (w : World) (o : ProgOk w p) :
  Calls Tryz.prog 236 #[.agg (progCells p), .agg #[.int .i64 h, .int .i64 f]] w fun e w' => e = .returned (.int .i64 (widthAt p h f)) ∧ Below w.heap.size w w' := by
 have HO := hi_ o
 have HWd := hi_ (widthAt_decl p h f)
 clear o
 have hca := @World.cell?_alloc_some
 rcases fieldsOf_cases p h with ⟨rfl, hx⟩ | ⟨h1, h2, hx⟩ | ⟨k, hk, rfl, hx⟩
 ·
  rcases declF_cases hx f with ⟨h3, hd⟩ | ⟨j, hj, rfl, hd⟩
  ·
   have HR : Hid (widthAt p (-1) f = 0) := hi_ (by rw [HWd.out, hd])
   clear hd hx HWd
   by_cases h4 : f < 0
   ·
    clear h3
    go_enter Tryz.func236, Tryz.ntmps236
    go_wp2
    go_ret
    exact ⟨by rw [HR.out]; rfl, below2 _ _ _⟩
   ·
    have h5 : (p.metadata.l.length : Int) ≤ f := by omega
    clear h3
    go_enter Tryz.func236, Tryz.ntmps236
    go_wp2
    go_ret
    exact ⟨by rw [HR.out]; rfl, below2 _ _ _⟩
  ·
   obtain ⟨g, of, hA, d0, d1⟩ := FieldD.at HO.out.metadata hj
   simp only [progCells, hA]
   have HR : Hid (widthAt p (-1) j = if okW p.metadata.l[j].width = true then p.metadata.l[j].width else 0) := hi_ (by rw [HWd.out, hd])
   clear hd hx hA HWd
   generalize p.metadata.l[j] = y at *
   generalize y.width = n at *
   by_cases h6 : n < 1
   ·
    have HR2 := hi_ (show widthAt p (-1) j = 0 by rw [HR.out, okW_not.2 (.inl h6)]; rfl)
    clear HR
    go_enter Tryz.func236, Tryz.ntmps236
    go_wp2
    go_ret
    exact ⟨by rw [HR2.out]; rfl, below2 _ _ _⟩
   by_cases h7 : 32 < n
   ·
    have HR2 := hi_ (show widthAt p (-1) j = 0 by rw [HR.out, okW_not.2 (.inr h7)]; rfl)
    clear HR
    go_enter Tryz.func236, Tryz.ntmps236
    go_wp2
    go_ret
    exact ⟨by rw [HR2.out]; rfl, below2 _ _ _⟩
   have HR2 := hi_ (show widthAt p (-1) j = n by rw [HR.out, okW_iff.2 ⟨by omega, by omega⟩]; rfl)
   clear HR
   go_enter Tryz.func236, Tryz.ntmps236
   go_wp2
   go_ret
   exact ⟨by rw [HR2.out]; rfl, below2 _ _ _⟩
 ·
  have HR : Hid (widthAt p h f = 0) := hi_ (by rw [HWd.out, declF_none hx f])
  clear hx HWd
  by_cases h4 : h < 0
  ·
   have h5 : h < -1 := by omega
   clear h2
   go_enter Tryz.func236, Tryz.ntmps236
   go_wp2
   go_ret
   exact ⟨by rw [HR.out]; rfl, below2 _ _ _⟩
  ·
   have h5 : (p.headers.l.length : Int) ≤ h := by omega
   clear h2
   go_enter Tryz.func236, Tryz.ntmps236
   go_wp2
   go_ret
   exact ⟨by rw [HR.out]; rfl, below2 _ _ _⟩
 ·
  obtain ⟨g, of, hA, d0, d1⟩ := HeaderD.at HO.out.headers hk
  have HF := hi_ (HO.out.hdr _ (List.getElem_mem hk)).fields
  simp only [progCells, hA]
  clear hA
  generalize p.headers.l[k] = x at *
  obtain ⟨xn, ⟨fl, fA, fc⟩⟩ := x
  simp only [L.v] at d1
  rcases declF_cases hx f with ⟨h3, hd⟩ | ⟨j, hj, rfl, hd⟩
  ·
   have HR : Hid (widthAt p k f = 0) := hi_ (by rw [HWd.out, hd])
   simp only at h3
   clear hd hx HWd
   by_cases h4 : f < 0
   ·
    clear h3
    go_enter Tryz.func236, Tryz.ntmps236
    go_wp2
    go_ret
    exact ⟨by rw [HR.out]; rfl, below2 _ _ _⟩
   ·
    have h5 : (fl.length : Int) ≤ f := by omega
    clear h3
    go_enter Tryz.func236, Tryz.ntmps236
    go_wp2
    go_ret
    exact ⟨by rw [HR.out]; rfl, below2 _ _ _⟩
  ·
   simp only at hj
   have HR : Hid (widthAt p k j = if okW fl[j].width = true then fl[j].width else 0) := hi_ (by rw [HWd.out, hd])
   obtain ⟨g2, of2, hA, e0, e1⟩ := FieldD.at HF.out hj
   simp only at hA e0 e1
   subst hA
   clear hd hx HWd
   generalize fl[j] = y at *
   generalize y.width = n at *
   by_cases h6 : n < 1
   ·
    have HR2 := hi_ (show widthAt p k j = 0 by rw [HR.out, okW_not.2 (.inl h6)]; rfl)
    clear HR
    go_enter Tryz.func236, Tryz.ntmps236
    go_wp2
    go_ret
    exact ⟨by rw [HR2.out]; rfl, below2 _ _ _⟩
   by_cases h7 : 32 < n
   ·
    have HR2 := hi_ (show widthAt p k j = 0 by rw [HR.out, okW_not.2 (.inr h7)]; rfl)
    clear HR
    go_enter Tryz.func236, Tryz.ntmps236
    go_wp2
    go_ret
    exact ⟨by rw [HR2.out]; rfl, below2 _ _ _⟩
   have HR2 := hi_ (show widthAt p k j = n by rw [HR.out, okW_iff.2 ⟨by omega, by omega⟩]; rfl)
   clear HR
   go_enter Tryz.func236, Tryz.ntmps236
   go_wp2
   go_ret
   exact ⟨by rw [HR2.out]; rfl, below2 _ _ _⟩
theorem rwidth17_any (p : ProgD) (h f : Int) (w : World) (o : ProgOk w p) :
  Calls Tryz.prog 187 #[.agg (progCells p), .agg #[.int .i64 h, .int .i64 f]] w fun e w' => e = .returned (.int .i64 (widthAt p h f)) ∧ Below w.heap.size w w' := by
 have HO := hi_ o
 have HWd := hi_ (widthAt_decl p h f)
 clear o
 have hca := @World.cell?_alloc_some
 rcases fieldsOf_cases p h with ⟨rfl, hx⟩ | ⟨h1, h2, hx⟩ | ⟨k, hk, rfl, hx⟩
 ·
  rcases declF_cases hx f with ⟨h3, hd⟩ | ⟨j, hj, rfl, hd⟩
  ·
   have HR : Hid (widthAt p (-1) f = 0) := hi_ (by rw [HWd.out, hd])
   clear hd hx HWd
   by_cases h4 : f < 0
   ·
    clear h3
    go_enter Tryz.func187, Tryz.ntmps187
    go_wp2
    go_ret
    exact ⟨by rw [HR.out]; rfl, below2 _ _ _⟩
   ·
    have h5 : (p.metadata.l.length : Int) ≤ f := by omega
    clear h3
    go_enter Tryz.func187, Tryz.ntmps187
    go_wp2
    go_ret
    exact ⟨by rw [HR.out]; rfl, below2 _ _ _⟩
  ·
   obtain ⟨g, of, hA, d0, d1⟩ := FieldD.at HO.out.metadata hj
   simp only [progCells, hA]
   have HR : Hid (widthAt p (-1) j = if okW p.metadata.l[j].width = true then p.metadata.l[j].width else 0) := hi_ (by rw [HWd.out, hd])
   clear hd hx hA HWd
   generalize p.metadata.l[j] = y at *
   generalize y.width = n at *
   by_cases h6 : n < 1
   ·
    have HR2 := hi_ (show widthAt p (-1) j = 0 by rw [HR.out, okW_not.2 (.inl h6)]; rfl)
    clear HR
    go_enter Tryz.func187, Tryz.ntmps187
    go_wp2
    go_ret
    exact ⟨by rw [HR2.out]; rfl, below2 _ _ _⟩
   by_cases h7 : 32 < n
   ·
    have HR2 := hi_ (show widthAt p (-1) j = 0 by rw [HR.out, okW_not.2 (.inr h7)]; rfl)
    clear HR
    go_enter Tryz.func187, Tryz.ntmps187
    go_wp2
    go_ret
    exact ⟨by rw [HR2.out]; rfl, below2 _ _ _⟩
   have HR2 := hi_ (show widthAt p (-1) j = n by rw [HR.out, okW_iff.2 ⟨by omega, by omega⟩]; rfl)
   clear HR
   go_enter Tryz.func187, Tryz.ntmps187
   go_wp2
   go_ret
   exact ⟨by rw [HR2.out]; rfl, below2 _ _ _⟩
 ·
  have HR : Hid (widthAt p h f = 0) := hi_ (by rw [HWd.out, declF_none hx f])
  clear hx HWd
  by_cases h4 : h < 0
  ·
   have h5 : h < -1 := by omega
   clear h2
   go_enter Tryz.func187, Tryz.ntmps187
   go_wp2
   go_ret
   exact ⟨by rw [HR.out]; rfl, below2 _ _ _⟩
  ·
   have h5 : (p.headers.l.length : Int) ≤ h := by omega
   clear h2
   go_enter Tryz.func187, Tryz.ntmps187
   go_wp2
   go_ret
   exact ⟨by rw [HR.out]; rfl, below2 _ _ _⟩
 ·
  obtain ⟨g, of, hA, d0, d1⟩ := HeaderD.at HO.out.headers hk
  have HF := hi_ (HO.out.hdr _ (List.getElem_mem hk)).fields
  simp only [progCells, hA]
  clear hA
  generalize p.headers.l[k] = x at *
  obtain ⟨xn, ⟨fl, fA, fc⟩⟩ := x
  simp only [L.v] at d1
  rcases declF_cases hx f with ⟨h3, hd⟩ | ⟨j, hj, rfl, hd⟩
  ·
   have HR : Hid (widthAt p k f = 0) := hi_ (by rw [HWd.out, hd])
   simp only at h3
   clear hd hx HWd
   by_cases h4 : f < 0
   ·
    clear h3
    go_enter Tryz.func187, Tryz.ntmps187
    go_wp2
    go_ret
    exact ⟨by rw [HR.out]; rfl, below2 _ _ _⟩
   ·
    have h5 : (fl.length : Int) ≤ f := by omega
    clear h3
    go_enter Tryz.func187, Tryz.ntmps187
    go_wp2
    go_ret
    exact ⟨by rw [HR.out]; rfl, below2 _ _ _⟩
  ·
   simp only at hj
   have HR : Hid (widthAt p k j = if okW fl[j].width = true then fl[j].width else 0) := hi_ (by rw [HWd.out, hd])
   obtain ⟨g2, of2, hA, e0, e1⟩ := FieldD.at HF.out hj
   simp only at hA e0 e1
   subst hA
   clear hd hx HWd
   generalize fl[j] = y at *
   generalize y.width = n at *
   by_cases h6 : n < 1
   ·
    have HR2 := hi_ (show widthAt p k j = 0 by rw [HR.out, okW_not.2 (.inl h6)]; rfl)
    clear HR
    go_enter Tryz.func187, Tryz.ntmps187
    go_wp2
    go_ret
    exact ⟨by rw [HR2.out]; rfl, below2 _ _ _⟩
   by_cases h7 : 32 < n
   ·
    have HR2 := hi_ (show widthAt p k j = 0 by rw [HR.out, okW_not.2 (.inr h7)]; rfl)
    clear HR
    go_enter Tryz.func187, Tryz.ntmps187
    go_wp2
    go_ret
    exact ⟨by rw [HR2.out]; rfl, below2 _ _ _⟩
   have HR2 := hi_ (show widthAt p k j = n by rw [HR.out, okW_iff.2 ⟨by omega, by omega⟩]; rfl)
   clear HR
   go_enter Tryz.func187, Tryz.ntmps187
   go_wp2
   go_ret
   exact ⟨by rw [HR2.out]; rfl, below2 _ _ _⟩
theorem firstE_ex {α : Type} {f : Nat → Option α} {r : α} : ∀ {n : Nat}, firstE n f = some r → ∃ i, i < n ∧ f i = some r ∧ ∀ j, j < i → f j = none
 | 0, h => by cases h
 | n + 1, h => by
  rw [firstE] at h
  rcases hf : firstE n f with _ | x
  ·
   rw [hf] at h
   exact ⟨n, by omega, h, firstE_inv hf⟩
  ·
   rw [hf] at h
   simp only [Option.some.injEq] at h
   subst h
   obtain ⟨i, h1, h2, h3⟩ := firstE_ex hf
   exact ⟨i, by omega, h2, h3⟩
def idxAt (l : List Int) (n : Int) (k : Nat) : Option Int := match l[k]? with
 | none => none
 | some x => if x = n then some (k : Int) else none
def idxM (l : List Int) (n : Int) : Int := match firstE l.length (idxAt l n) with
 | some r => r
 | none => -1
theorem idxAt_at (l : List Int) (n : Int) (k : Nat) (h : k < l.length) : idxAt l n k = if l[k] = n then some (k : Int) else none := by
 rw [idxAt, List.getElem?_eq_getElem h]
theorem idxM_cases (l : List Int) (n : Int) : (idxM l n = -1 ∧ n ∉ l) ∨ ∃ k : Nat, ∃ h : k < l.length, idxM l n = k ∧ l[k] = n ∧ ∀ j (hj : j < l.length), j < k → l[j] ≠ n := by
 unfold idxM
 rcases hf : firstE l.length (idxAt l n) with _ | r
 ·
  refine .inl ⟨rfl, fun hm => ?_⟩
  obtain ⟨k, hk, e⟩ := List.mem_iff_getElem.1 hm
  have h := firstE_inv hf k hk
  rw [idxAt_at l n k hk, if_pos e] at h
  cases h
 ·
  obtain ⟨k, hk, h2, h3⟩ := firstE_ex hf
  rw [idxAt_at l n k hk] at h2
  by_cases e : l[k] = n
  ·
   rw [if_pos e] at h2
   cases h2
   refine .inr ⟨k, hk, rfl, e, fun j hj hjk e2 => ?_⟩
   have h := h3 j hjk
   rw [idxAt_at l n j hj, if_pos e2] at h
   cases h
  · rw [if_neg e] at h2; cases h2
theorem idxM_neg {l : List Int} {n : Int} : idxM l n < 0 ↔ n ∉ l := by
 rcases idxM_cases l n with ⟨h1, h2⟩ | ⟨k, hk, h1, h2, _⟩
 · exact ⟨fun _ => h2, fun _ => by omega⟩
 · exact ⟨fun h => by omega, fun h => absurd (h2 ▸ List.getElem_mem hk) h⟩
theorem idxM_lt {l : List Int} {i : Nat} (hi : i < l.length) : idxM l l[i] < (i : Int) ↔ l[i] ∈ l.take i := by
 rw [List.mem_take_iff_getElem]
 rcases idxM_cases l l[i] with ⟨h1, h2⟩ | ⟨k, hk, h1, h2, h3⟩
 · exact absurd (List.getElem_mem hi) h2
 ·
  rw [h1]
  constructor
  ·
   intro h
   exact ⟨k, by omega, h2⟩
  ·
   rintro ⟨j, hj, e⟩
   rcases Nat.lt_or_ge j k with h | h
   · exact absurd e (h3 j (by omega) h)
   · omega
theorem idxM_le (l : List Int) (n : Int) : -1 ≤ idxM l n ∧ idxM l n ≤ (l.length : Int) := by
 rcases idxM_cases l n with ⟨h1, _⟩ | ⟨k, hk, h1, _⟩ <;> omega
theorem rindex_any (x : L Int) (n : Int) (w : World) (h : LOk w 1 icell x) :
  Calls Tryz.prog 123 #[.slice x.A x.l.length x.c, .int .i64 n] w fun e w' => e = .returned (.int .i64 (idxM x.l n)) ∧ w = w' := by
 obtain ⟨l, A0, c0⟩ := x
 have HX := hi_ h
 have hmx : l.length ≤ 9223372036854775807 := h.1
 have HR := hi_ (idxM.eq_1 l n)
 clear h
 simp only at *
 go_enter Tryz.func123, Tryz.ntmps123
 go_wp2
 go_loopw [5] (fun iv wr => ∃ i : Nat, i ≤ l.length ∧ iv = .int .i64 i ∧ (∀ j, j < i → idxAt l n j = none) ∧ w = wr) (fun i _ => l.length - (intOf i).toNat)
 case atStart => exact ⟨0, Nat.zero_le _, rfl, fun j hj => absurd hj (Nat.not_lt_zero _), rfl⟩
 case round =>
 obtain ⟨i, hi, rfl, hpre, rfl⟩ := hrel
 have HPre := hi_ hpre
 clear hpre
 by_cases hlt : i < l.length
 ·
  obtain ⟨g, of, hA, d0⟩ := icell_at HX.out hlt
  have HE := hi_ (idxAt_at l n i hlt)
  simp only at hA d0
  subst hA
  generalize l[i] = y at *
  by_cases k1 : y = n
  ·
   have HR2 := hi_ (HR.out.trans (show _ = (i : Int) by rw [firstE_some hlt HPre.out (HE.out.trans (if_pos k1))]))
   subst k1
   go_wp2
   go_ret
   exact ⟨by rw [HR2.out]; rfl, rfl⟩
  ·
   have HP2 := hi_ (firstE_step HPre.out (HE.out.trans (if_neg k1)))
   have k1' : (y == n) = false := bf_ k1
   clear k1
   go_wp2
   go_roundw
   case rel => exact ⟨i + 1, by omega, by go_num, HP2.out, by trivial⟩
   case measure => simp [intOf]; omega
 ·
  have e : i = l.length := by omega
  subst e
  have HR2 := hi_ (HR.out.trans (show _ = (-1 : Int) by rw [firstE_none HPre.out]))
  go_wp2
  go_ret
  exact ⟨by rw [HR2.out]; rfl, rfl⟩
theorem rkeys_any (p : ProgD) (t : TabD) (w : World) (o : ProgOk w p) (ot : TabOk w t) (h6 : t.keys.l.length ≤ 6) :
  Calls Tryz.prog 180 #[.agg (progCells p), .agg (tabCells t)] w fun e w' => e = .returned (.tuple #[.int .i64 (keysM p t.keys.l).1, .int .i64 (keysM p t.keys.l).2]) ∧ Below w.heap.size w w' := by
 obtain ⟨tn, ⟨kl, kA, kc⟩, ta, td, tg, tz⟩ := t
 have HO := hi_ o
 have HK := hi_ ot.keys
 simp only at h6 HK
 obtain ⟨W, hW, hw, HB, hp⟩ := box2 w (progCells p) 31 (tabCells ⟨tn, ⟨kl, kA, kc⟩, ta, td, tg, tz⟩) 59
 have HW := hi_ hw
 have HW0 := hi_ HB
 have HR := hi_ (keysM.eq_1 p kl)
 have HS := hi_ (keyAtM_at p kl)
 have HT := hi_ (take_snoc kl)
 clear o ot hw
 go_enter Tryz.func180, Tryz.ntmps180
 go_upto_region 1 with fail
 rw [← hW]
 clear hW
 go_wp2
 clear HB
 go_loopw [6, 7, 8, 9, 10] (fun bv lv iv _ _ wr => ∃ k : Nat, k ≤ kl.length ∧ iv = .int .i64 k ∧ lv = .int .i64 (lpmM (kl.take k)) ∧ bv = .int .i64 (bitsM p (kl.take k)) ∧ (∀ j, j < k → keyAtM p kl j = none) ∧ Below W.heap.size W wr) (fun _ _ i _ _ _ => kl.length - (intOf i).toNat)
 case atStart => exact ⟨0, Nat.zero_le _, rfl, rfl, rfl, fun j h => absurd h (Nat.not_lt_zero _), HW0.out⟩
 case round =>
  obtain ⟨k, hk, rfl, rfl, rfl, hpre, HB⟩ := hrel
  have HPre := hi_ hpre
  clear hpre
  have b1 := lpmM_le (kl.take k)
  have b2 := bitsM_le p (kl.take k)
  rw [List.length_take] at b1 b2
  obtain ⟨b11, b12⟩ := b1
  obtain ⟨b21, b22⟩ := b2
  by_cases hlt : k < kl.length
  ·
   obtain ⟨g, of, hA, hq⟩ := KeyD.atA (HK.out.below (below_step HW.out HB) (Nat.le_refl _)) hlt
   have HE := hi_ (HS.out k hlt)
   have HL : Hid (lpmM (kl.take (k + 1)) = lpmM (kl.take k) + if kl[k].kind = 2 then 1 else 0) := hi_ (by rw [HT.out k hlt, lpmM_snoc])
   have HBt : Hid (bitsM p (kl.take (k + 1)) = bitsM p (kl.take k) + widthAt p kl[k].h kl[k].f) := hi_ (by rw [HT.out k hlt, bitsM_snoc])
   simp only at hA hq
   subst hA
   generalize kl[k] = y at *
   obtain ⟨yh, yf, yk⟩ := y
   simp only at HE HL HBt hq
   generalize lpmM (kl.take k) = lm at *
   generalize bitsM p (kl.take k) = bm at *
   have hp2 := fun w' (h : Below wr.heap.size wr w') => hp w' (below_step HB h)
   have HVV := hi_ HB
   have H0 := hi_ (Below.refl wr.heap.size wr)
   have hp3 := hp wr HB
   have hn1 : (k : Int) < (kl.length : Int) := by omega
   clear HB hp
   go_wp2
   clear hp3
   go_region_held3 (fun w' => Below wr.heap.size wr w') (first | exact H0.out | exact below_drew H0.out | (exact below_step (by assumption) (by assumption)) | assumption)
    (first | (go_at_call 187; refine (rwidth17_any p yh yf _ (HO.out.below (below_step HW.out (below_step HVV.out (by assumption))))).mono ?_; rintro e w1 ⟨rfl, hb1⟩))
   have HB5 : Hid (Below wr.heap.size wr _) := hi_ (by assumption)
   have hq3 := hq _ HB5.out
   have hp3 := hp2 _ HB5.out
   have HB := below_step HVV.out HB5.out
   clear hq hp2
   have hwl := widthAt_le p yh yf
   generalize widthAt p yh yf = wd at *
   obtain ⟨wl1, wl2⟩ := hwl
   by_cases k1 : wd = 0
   ·
    subst k1
    have HE2 := tr_ HE (if_pos rfl)
    have HR2 := hi_ (HR.out.trans (show _ = ((k : Int), (8 : Int)) by rw [firstE_some hlt HPre.out HE2.out]))
    go_wp2
    go_ret2
    exact ⟨ret_pp HR2.out, below_step HW.out HB⟩
   have k1' : (wd == 0) = false := bf_ k1
   have HE2 := tr_ HE (if_neg k1)
   clear k1
   have hw1 : IntKind.i64.wrap (bm + wd) = bm + wd := IntWalk.i64_in _ (by omega)
   by_cases e2 : yk = 2
   ·
    subst e2
    have HE3 := tr_ HE2 (if_neg (by simp))
    have HL2 : Hid (lpmM (kl.take (k + 1)) = lm + 1) := hi_ (by rw [HL.out, if_pos rfl])
    have hw2 : IntKind.i64.wrap (lm + 1) = lm + 1 := IntWalk.i64_in _ (by omega)
    go_wp2
    go_roundw
    case rel => exact ⟨k + 1, by omega, by go_num, by rw [HL2.out], by rw [HBt.out], firstE_step HPre.out HE3.out, HB⟩
    case measure => simp [intOf]; omega
   have HL2 : Hid (lpmM (kl.take (k + 1)) = lm) := hi_ (by rw [HL.out, if_neg e2]; omega)
   have e2' : (yk == 2) = false := bf_ e2
   by_cases e1 : yk = 1
   ·
    subst e1
    have HE3 := tr_ HE2 (if_neg (by simp))
    clear e2 e2'
    go_wp2
    go_roundw
    case rel => exact ⟨k + 1, by omega, by go_num, by rw [HL2.out], by rw [HBt.out], firstE_step HPre.out HE3.out, HB⟩
    case measure => simp [intOf]; omega
   have e1' : (yk == 1) = false := bf_ e1
   by_cases e3 : yk = 3
   ·
    subst e3
    have HE3 := tr_ HE2 (if_neg (by simp))
    clear e2 e2' e1 e1'
    go_wp2
    go_roundw
    case rel => exact ⟨k + 1, by omega, by go_num, by rw [HL2.out], by rw [HBt.out], firstE_step HPre.out HE3.out, HB⟩
    case measure => simp [intOf]; omega
   have e3' : (yk == 3) = false := bf_ e3
   have HE3 := tr_ HE2 (if_pos (by rintro (h | h | h) <;> contradiction))
   have HR2 := hi_ (HR.out.trans (show _ = ((k : Int), (11 : Int)) by rw [firstE_some hlt HPre.out HE3.out]))
   have b1 : (yk != 1) = true := bne_iff_ne.2 e1
   have b2 : (yk != 2) = true := bne_iff_ne.2 e2
   have b3 : (yk != 3) = true := bne_iff_ne.2 e3
   go_wp2
   go_ret2
   exact ⟨ret_pp HR2.out, below_step HW.out HB⟩
  ·
   have e : k = kl.length := by omega
   have HR2 := hi_ (HR.out.trans (show _ = (if 1 < lpmM kl then ((-2 : Int), (7 : Int)) else if 64 < bitsM p kl then (-2, 10) else (0, 0)) by rw [firstE_none (by rw [← e]; exact HPre.out)]))
   rw [show kl.take k = kl by rw [e, List.take_length]] at *
   generalize lpmM kl = lm at *
   generalize bitsM p kl = bm at *
   have hp3 := hp wr HB
   by_cases k1 : 1 < lm
   ·
    replace HR2 := tr_ HR2 (if_pos k1)
    go_wp2
    go_ret2
    exact ⟨ret_pp HR2.out, below_step HW.out HB⟩
   replace HR2 := tr_ HR2 (if_neg k1)
   by_cases k2 : 64 < bm
   ·
    replace HR2 := tr_ HR2 (if_pos k2)
    go_wp2
    go_ret2
    exact ⟨ret_pp HR2.out, below_step HW.out HB⟩
   replace HR2 := tr_ HR2 (if_neg k2)
   go_wp2
   go_ret2
   exact ⟨ret_pp HR2.out, below_step HW.out HB⟩
theorem rtacts_any (p : ProgD) (t : TabD) (w : World) (o : ProgOk w p) (ot : TabOk w t) (hwf : ∀ v ∈ t.args.l, (Lit.int .u32 v).wf = true) :
  Calls Tryz.prog 181 #[.agg (progCells p), .agg (tabCells t)] w fun e w' => e = .returned (.int .i64 (tactsM p t)) ∧ Below w.heap.size w w' := by
 obtain ⟨tn, tk, ⟨al, aA, ac⟩, td, ⟨gl, gA, gc⟩, tz⟩ := t
 have HO := hi_ o
 have HK := hi_ ot.acts
 have HG := hi_ ot.args
 have HWF := hi_ hwf
 simp only at HK HG HWF
 have hmx : al.length ≤ 9223372036854775807 := HK.out.1
 obtain ⟨W, hW, hw, HB, hp⟩ := box2 w (progCells p) 31 (tabCells ⟨tn, tk, ⟨al, aA, ac⟩, td, ⟨gl, gA, gc⟩, tz⟩) 59
 have HW := hi_ hw
 have HW0 := hi_ HB
 have HR := hi_ (tactsM_eq p ⟨tn, tk, ⟨al, aA, ac⟩, td, ⟨gl, gA, gc⟩, tz⟩)
 have HS := hi_ (tactAtM_at p al)
 simp only at HR
 clear o ot hw hwf
 go_enter Tryz.func181, Tryz.ntmps181
 go_upto_region 1 with fail
 rw [← hW]
 clear hW
 go_wp2
 clear HB
 go_loopw [5] (fun iv wr => ∃ k : Nat, k ≤ al.length ∧ iv = .int .i64 k ∧ (∀ j, j < k → tactAtM p al j = none) ∧ Below W.heap.size W wr) (fun i _ => al.length - (intOf i).toNat)
 case atStart => exact ⟨0, Nat.zero_le _, rfl, fun j h => absurd h (Nat.not_lt_zero _), HW0.out⟩
 case round =>
  obtain ⟨k, hk, rfl, hpre, HB⟩ := hrel
  have HPre := hi_ hpre
  clear hpre
  have HVV := hi_ HB
  have HXr := hi_ (HK.out.below (below_step HW.out HB) (Nat.le_refl _))
  by_cases hlt : k < al.length
  ·
   obtain ⟨g, of, hA, hq⟩ := icell_atA HXr.out hlt
   have HE := hi_ (HS.out k hlt)
   have HI := hi_ (idxM_lt hlt)
   have hq0 := hq wr (Below.refl _ _)
   have hn1 : (k : Int) < (al.length : Int) := by omega
   have hp0 := hp wr HB
   simp only at hA hq0 hq
   subst hA
   have HIx : Hid (∀ n u, Below wr.heap.size wr u → Calls Tryz.prog 123 #[.slice (some ⟨g, of, none⟩) al.length ac, .int .i64 n] u fun e w' => e = .returned (.int .i64 (idxM al n)) ∧ u = w') :=
    hi_ (fun n u hb => rindex_any ⟨al, some ⟨g, of, none⟩, ac⟩ n u (HXr.out.below hb (Nat.le_refl _)))
   generalize al[k] = a at *
   have hcase : a < 0 ∨ (0 ≤ a ∧ (p.actions.l.length : Int) ≤ a) ∨ (0 ≤ a ∧ a < (p.actions.l.length : Int)) := by omega
   rcases hcase with h1 | ⟨h1, h2⟩ | ⟨h1, h2⟩
   ·
    have HE2 := tr_ HE (if_pos (Or.inl h1))
    have HR2 := hi_ (HR.out.trans (show _ = (8 : Int) by rw [firstE_some hlt HPre.out HE2.out]))
    have b1 : decide (a < 0) = true := decide_eq_true h1
    go_wp2
    go_quiet (fail)
    go_wp2
    go_ret
    exact ⟨by rw [HR2.out]; rfl, below_step HW.out (below_drewN HB _)⟩
   ·
    have HE2 := tr_ HE (if_pos (Or.inr h2))
    have HR2 := hi_ (HR.out.trans (show _ = (8 : Int) by rw [firstE_some hlt HPre.out HE2.out]))
    have b1 : decide (a < 0) = false := decide_eq_false (by omega)
    go_wp2
    go_quiet (fail)
    go_wp2
    go_ret
    exact ⟨by rw [HR2.out]; rfl, below_step HW.out (below_drewN HB _)⟩
   ·
    have HE2 := hi_ (HE.out.trans (if_neg (show ¬ (a < 0 ∨ (p.actions.l.length : Int) ≤ a) by omega)))
    have b1 : decide (a < 0) = false := decide_eq_false (by omega)
    have hle := idxM_le al a
    have HI2 := hi_ (idxM_le al a)
    go_wp2
    go_quiet (fail)
    have HB2 := below_drewN HB nq
    have hp1 := hp _ HB2
    have HW1 := hi_ (below_drewN (Below.refl wr.heap.size wr) nq)
    have hq1 := hq _ HW1.out
    generalize World.drewN wr nq = wx at *
    go_wp2
    go_quiet ((go_at_call 123; exact Calls.quiet_of_same (flipC (HIx.out a _ (below_drewN HW1.out _)))))
    generalize idxM al a = ix at *
    by_cases hd : a ∈ al.take k
    ·
     have HE3 := tr_ HE2 (if_pos hd)
     have HR2 := hi_ (HR.out.trans (show _ = (7 : Int) by rw [firstE_some hlt HPre.out HE3.out]))
     have hx := HI.out.2 hd
     clear hd
     go_wp2
     go_ret
     exact ⟨by rw [HR2.out]; rfl, below_step HW.out (below_drewN HB2 _)⟩
    ·
     have HE3 := tr_ HE2 (if_neg hd)
     have hx : ¬ ix < (k : Int) := fun h => hd (HI.out.1 h)
     clear hd
     go_wp2
     go_roundw
     case rel => exact ⟨k + 1, by omega, by go_num, firstE_step HPre.out HE3.out, below_drewN HB2 _⟩
     case measure => simp [intOf]; omega
  ·
   have e : k = al.length := by omega
   have HR2 := hi_ (HR.out.trans (show _ = (if td ∈ al then callM p td gl else 8) by rw [firstE_none (by rw [← e]; exact HPre.out)]))
   have hp0 := hp wr HB
   go_wp2_with fail
   refine (rindex_any ⟨al, aA, ac⟩ td _ HXr.out).mono ?_
   rintro e w' ⟨rfl, rfl⟩
   have HN := hi_ (idxM_neg (l := al) (n := td))
   generalize idxM al td = ix at *
   by_cases hd : td ∈ al
   ·
    replace HR2 := tr_ HR2 (if_pos hd)
    have hx : ¬ ix < 0 := fun h => HN.out.1 h hd
    clear hd
    go_wp2_with fail
    refine (rcheckCall_any p td ⟨gl, gA, gc⟩ _ (HO.out.below (below_step HW.out (by first | exact HB | exact ba1 HB | exact ba2 HB | exact ba3 HB))) (HG.out.below (below_step HW.out (by first | exact HB | exact ba1 HB | exact ba2 HB | exact ba3 HB)) (Nat.le_refl _)) HWF.out).mono ?_
    rintro e w2 ⟨rfl, hbN⟩
    replace HB := below_step (by first | exact HB | exact ba1 HB | exact ba2 HB | exact ba3 HB) hbN
    clear hbN
    go_wp2
    go_ret
    exact ⟨by rw [HR2.out]; rfl, below_step HW.out HB⟩
   ·
    replace HR2 := tr_ HR2 (if_neg hd)
    have hx : ix < 0 := HN.out.2 hd
    clear hd
    go_wp2
    go_ret
    exact ⟨by rw [HR2.out]; rfl, below_step HW.out HB⟩
theorem rtableCheck_any (p : ProgD) (i : Nat) (hi : i < p.tables.l.length) (w : World) (o : ProgOk w p) (hc : ∀ t ∈ p.tables.l, ∀ v ∈ t.args.l, (Lit.int .u32 v).wf = true) :
  Calls Tryz.prog 115 #[.agg (progCells p), .int .i64 i] w fun e w' => e = .returned (.tuple #[.int .i64 (tabM p p.tables.l[i]).1, .int .i64 (tabM p p.tables.l[i]).2]) ∧ Below w.heap.size w w' := by
 have HO := hi_ o
 obtain ⟨W, hW, hw, HB, hp⟩ := box1 w (progCells p) 31
 have HW := hi_ hw
 have HA : Hid (TabOk W p.tables.l[i]) := hi_ ((o.tab _ (List.getElem_mem hi)).below hw)
 have HC := hi_ (hc _ (List.getElem_mem hi))
 have HR := hi_ (tabM.eq_1 p p.tables.l[i])
 obtain ⟨g, of, hA, hq⟩ := TabD.atA (o.tables.below hw (Nat.le_refl _)) hi
 have hn1 : (i : Int) < (p.tables.l.length : Int) := by omega
 clear o hw hc
 generalize p.tables.l[i] = t at *
 obtain ⟨tn, ⟨kl, kA, kc⟩, ⟨al, aA, ac⟩, td, ⟨gl, gA, gc⟩, tz⟩ := t
 simp only at HR hq
 have HAA := hi_ hA
 simp only [progCells, hA] at hp hW ⊢
 clear hA
 go_enter Tryz.func115, Tryz.ntmps115
 go_upto_region 1 with fail
 rw [← hW]
 clear hW
 refine Exists.elim (box1 W #[.string tn, .slice kA kl.length kc, .slice aA al.length ac, .int .i64 td, .slice gA gl.length gc, .int .i64 tz] 59) ?_
 rintro U ⟨hU, hu, hUU, hc⟩
 go_wp2_with fail
 rw [← hU]
 clear hU
 have HU := hi_ hu
 have hp2 := fun w' h => hp w' (below_step hu h)
 replace HB := hUU
 have HHS : Hid (tn.size ≤ maxLen) := hi_ HA.out.name
 clear hp hUU hu
 refine (risIdent_any tn _ HHS.out).mono ?_
 rintro e w' ⟨rfl, rfl⟩
 cases h1 : identM tn.data.toList
 ·
  replace HR := tr_ HR (if_pos (show ident tn = false from h1))
  go_wp2
  go_ret2
  exact ⟨ret_pp HR.out, below_step HW.out (below_step HU.out HB)⟩
 replace HR := tr_ HR (if_neg (show ¬ ident tn = false by rw [show ident tn = true from h1]; simp))
 clear h1
 by_cases h2 : 6 < kl.length ∨ 16 < al.length
 ·
  replace HR := tr_ HR (if_pos h2)
  have h2' : 6 < kl.length ∨ (kl.length ≤ 6 ∧ 16 < al.length) := by omega
  rcases h2' with h2 | ⟨h2, h3⟩
  all_goals
   go_wp2
   go_ret2
   exact ⟨ret_pp HR.out, below_step HW.out (below_step HU.out HB)⟩
 replace HR := tr_ HR (if_neg h2)
 have h3 : kl.length ≤ 6 := by omega
 have h4 : al.length ≤ 16 := by omega
 clear h2
 by_cases h2 : tz < 1 ∨ 256 < tz
 ·
  replace HR := tr_ HR (if_pos h2)
  have h2' : tz < 1 ∨ (1 ≤ tz ∧ 256 < tz) := by omega
  rcases h2' with h2 | ⟨h2, h5⟩
  all_goals
   go_wp2
   go_ret2
   exact ⟨ret_pp HR.out, below_step HW.out (below_step HU.out HB)⟩
 replace HR := tr_ HR (if_neg h2)
 have h5 : 1 ≤ tz := by omega
 have h6 : tz ≤ 256 := by omega
 clear h2
 go_wp2_with fail
 have hCN := rkeys_any p ⟨tn, ⟨kl, kA, kc⟩, ⟨al, aA, ac⟩, td, ⟨gl, gA, gc⟩, tz⟩ U (HO.out.below (below_step HW.out (below_step HU.out (by first | exact HB | exact ba1 HB | exact ba2 HB | exact ba3 HB)))) (HA.out.below (below_step HU.out (by first | exact HB | exact ba1 HB | exact ba2 HB | exact ba3 HB))) h3
 simp only [progCells, HAA.out] at hCN
 refine hCN.mono ?_
 clear hCN
 rintro e w1 ⟨rfl, hbN⟩
 replace HB := below_step (by first | exact HB | exact ba1 HB | exact ba2 HB | exact ba3 HB) hbN
 clear hbN
 generalize keysM p kl = r at *
 obtain ⟨ka, kc2⟩ := r
 simp only at HR
 by_cases k1 : kc2 = 0
 case neg =>
  have k1' : (kc2 == 0) = false := bf_ k1
  replace HR := tr_ HR (if_pos k1)
  go_wp2
  go_ret2
  exact ⟨ret_pp HR.out, below_step HW.out (below_step HU.out HB)⟩
 subst k1
 replace HR := tr_ HR (if_neg (by simp))
 go_wp2_with fail
 have hCN := rtacts_any p ⟨tn, ⟨kl, kA, kc⟩, ⟨al, aA, ac⟩, td, ⟨gl, gA, gc⟩, tz⟩ w1 (HO.out.below (below_step HW.out (below_step HU.out (by first | exact HB | exact ba1 HB | exact ba2 HB | exact ba3 HB)))) (HA.out.below (below_step HU.out (by first | exact HB | exact ba1 HB | exact ba2 HB | exact ba3 HB))) HC.out
 simp only [progCells, HAA.out] at hCN
 refine hCN.mono ?_
 clear hCN
 rintro e w2 ⟨rfl, hbN⟩
 replace HB := below_step (by first | exact HB | exact ba1 HB | exact ba2 HB | exact ba3 HB) hbN
 clear hbN
 generalize tactsM p ⟨tn, ⟨kl, kA, kc⟩, ⟨al, aA, ac⟩, td, ⟨gl, gA, gc⟩, tz⟩ = tm at *
 by_cases k1 : tm = 0
 ·
  subst k1
  replace HR := tr_ HR (if_neg (by simp))
  go_wp2
  go_ret2
  exact ⟨ret_pp HR.out, below_step HW.out (below_step HU.out HB)⟩
 ·
  have k1' : (tm == 0) = false := bf_ k1
  replace HR := tr_ HR (if_pos k1)
  go_wp2
  go_ret2
  exact ⟨ret_pp HR.out, below_step HW.out (below_step HU.out HB)⟩
theorem rep_at (l : List ByteArray) (n g c i : Nat) (w0 w : World) (hn : l.length = n) (hi : i < n) (hm : n ≤ 1000)
  (hg : g < w0.heap.size ∧ l.length ≤ c ∧ ∀ j, j < l.length → w0.cell? ⟨g, 0 + j, none⟩ = some (.string (l.getD j ByteArray.empty))) (hb : Below w0.heap.size w0 w) :
  Calls Tryz.prog 86 #[.slice (some ⟨g, 0, none⟩) n c, .int .i64 i] w fun e w' => e = .returned (.bool (dupB l i)) ∧ Below w.heap.size w w' := by
 subst hn
 exact repeated_any l g c i w hi hm hg.2.1 (fun j hj => below_cell hb (hg.2.2 j hj))
theorem meta_list : metaName.toList = [109, 101, 116, 97] := by rw [toList_data]; rfl
theorem meta_true {s : ByteArray} (h : s = metaName) : (s.toList == [109, 101, 116, 97]) = true := by rw [h, meta_list]; rfl
theorem meta_false {s : ByteArray} (h : ¬ s = metaName) : (s.toList == [109, 101, 116, 97]) = false := bf_ fun e => h (toList_inj.1 (e.trans meta_list.symm))
theorem hdrAtM_at (l : List HeaderD) (k : Nat) (h : k < l.length) : hdrAtM l k = if hdrM l[k] ≠ 0 then some ⟨hdrM l[k], 1, k, 0⟩ else if l[k].name = metaName then some ⟨6, 1, k, 0⟩ else if dupB (l.map HeaderD.name) k = true then some ⟨7, 1, k, 0⟩ else none := by
 rw [hdrAtM, List.getElem?_eq_getElem h]
theorem checkHeaders_any (p : ProgD) (w : World) (o : ProgOk w p) (hl : p.headers.l.length ≤ 100) (hc : ∀ h ∈ p.headers.l, h.fields.l.length ≤ h.fields.c) :
  Calls Tryz.prog 40 #[.agg (progCells p)] w fun e w' => e = outE (hdrsM p) ∧ Below w.heap.size w w' := by
 obtain ⟨W, hW, hw, HB, hp⟩ := box1 w (progCells p) 31
 have HW := hi_ hw
 have HOW := hi_ (o.below hw)
 have HC := hi_ hc
 have HR := hi_ (hdrsM.eq_1 p)
 have HS := hi_ (hdrAtM_at p.headers.l)
 have HL := hi_ hl
 clear o hw hc
 have hn := names_header p.headers W HOW.out.headers hl
 simp only [L.v] at hn
 by_cases h0 : p.headers.l.length = 0
 ·
  have HR2 := hi_ (HR.out.trans (show _ = (none : Option DiagD) by rw [h0]; rfl))
  have HNm := hi_ hn
  have h1 : ¬ ((0 : Int) < (p.headers.l.length : Int)) := by omega
  have h2 : (p.headers.l.length : Int) ≤ 0 := by omega
  clear h0 hn
  go_enter Tryz.func40, Tryz.ntmps40
  go_upto_region 1 with fail
  rw [← hW]
  clear hW
  go_wp2_with fail
  refine HNm.out.mono ?_
  rintro e w1 ⟨A, c, rfl, _, hb1⟩
  replace HB := below_step HB hb1
  clear hb1
  go_wp2
  refine wp_loop_rounds 1 ?_
  rw [rounds_succ]
  go_wp2
  go_end0
  exact ⟨by rw [HR2.out]; rfl, below_step HW.out HB⟩
 obtain ⟨g, of, hA, hall⟩ := HeaderD.allA HOW.out.headers (show 0 < p.headers.l.length by omega)
 have HAL := hi_ hall
 have HAA := hi_ hA
 rw [hA] at hn
 simp only [progCells, hA] at hp hW ⊢
 have HNm := hi_ hn
 clear hA hall hn
 go_enter Tryz.func40, Tryz.ntmps40
 go_upto_region 1 with fail
 rw [← hW]
 clear hW
 go_wp2_with fail
 refine HNm.out.mono ?_
 rintro e w1 ⟨A, c, rfl, hown, hb1⟩
 obtain ⟨gn, rfl, hg⟩ := OwnStrs.form hown (by rw [List.length_map]; omega)
 have HG := hi_ hg
 replace HB := below_step HB hb1
 have HB1 := hi_ HB
 clear hb1 hown hg HNm h0
 go_wp2
 clear HB
 go_loopw [3, 4, 11] (fun _ _ iv wr => ∃ k : Nat, k ≤ p.headers.l.length ∧ iv = .int .i64 k ∧ (∀ j, j < k → hdrAtM p.headers.l j = none) ∧ Below w1.heap.size w1 wr) (fun _ _ i _ => p.headers.l.length - (intOf i).toNat)
 case atStart => exact ⟨0, Nat.zero_le _, rfl, fun j h => absurd h (Nat.not_lt_zero _), Below.refl _ _⟩
 case round =>
  obtain ⟨k, hk, rfl, hpre, HB⟩ := hrel
  have HPre := hi_ hpre
  clear hpre
  by_cases hlt : k < p.headers.l.length
  ·
   obtain ⟨d0, d1⟩ := HAL.out wr (below_step HB1.out HB) k hlt
   have HE := hi_ (HS.out k hlt)
   have HX : Hid (HeaderOk W p.headers.l[k]) := hi_ (HOW.out.hdr _ (List.getElem_mem hlt))
   have HCk := hi_ (HC.out _ (List.getElem_mem hlt))
   generalize p.headers.l[k] = y at *
   obtain ⟨yn, ⟨yl, yA, yc⟩⟩ := y
   simp only at HE HCk d0 d1
   have hca := @World.cell?_alloc_some
   go_wp2_with fail
   refine (headerCheck_any ⟨yn, ⟨yl, yA, yc⟩⟩ (wr.alloc (.cells #[.string yn, .slice yA yl.length yc] 98)) (HX.out.below (below_step HB1.out (by first | exact HB | exact ba1 HB | exact ba2 HB | exact ba3 HB))) HCk.out).mono ?_
   rintro e w2 ⟨rfl, hbN⟩
   have f0 : w2.cell? ⟨wr.heap.size, 0, none⟩ = some (.string yn) := below_cell hbN (by simp)
   replace HB := below_step (by first | exact HB | exact ba1 HB | exact ba2 HB | exact ba3 HB) hbN
   clear hbN d0 d1 hca
   generalize hdrM ⟨yn, ⟨yl, yA, yc⟩⟩ = hc at *
   by_cases k1 : hc = 0
   case neg =>
    have HE2 := tr_ HE (if_pos k1)
    have HR2 := hi_ (HR.out.trans (firstE_some hlt HPre.out HE2.out))
    go_wp2_with fail
    refine (require_bad hc 1 k 0 _ (bf_ k1)).mono ?_
    rintro e w' ⟨rfl, rfl⟩
    go_wp2
    exact ⟨rfl, by rw [HR2.out]; rfl, below_step HW.out (below_step HB1.out HB)⟩
   subst k1
   have HE2 := tr_ HE (if_neg (by simp))
   go_wp2_with fail
   refine (require_ok _ _ _ _).mono ?_
   rintro e w' ⟨rfl, rfl⟩
   by_cases he : yn = metaName
   case pos =>
    have HE3 := tr_ HE2 (if_pos he)
    have HR2 := hi_ (HR.out.trans (firstE_some hlt HPre.out HE3.out))
    have he' := meta_true he
    clear he
    go_wp2_with fail
    refine (when_true _ _ _ rfl).mono ?_
    rintro e w' ⟨rfl, rfl⟩
    go_wp2_with fail
    refine (require_bad 6 1 k 0 _ rfl).mono ?_
    rintro e w' ⟨rfl, rfl⟩
    go_wp2
    exact ⟨rfl, by rw [HR2.out]; rfl, below_step HW.out (below_step HB1.out HB)⟩
   have HE3 := tr_ HE2 (if_neg he)
   have he' := meta_false he
   clear he
   go_wp2_with fail
   refine (when_false _ _ _ rfl).mono ?_
   rintro e w' ⟨rfl, rfl⟩
   go_wp2_with fail
   refine (require_ok _ _ _ _).mono ?_
   rintro e w' ⟨rfl, rfl⟩
   go_wp2_with fail
   refine (rep_at (p.headers.l.map HeaderD.name) p.headers.l.length gn c k w1 _ (by simp) hlt (by have := HL.out; omega) HG.out HB).mono ?_
   rintro e w3 ⟨rfl, hbN⟩
   replace HB := below_step (by first | exact HB | exact ba1 HB | exact ba2 HB | exact ba3 HB) hbN
   clear hbN
   cases hd : dupB (p.headers.l.map HeaderD.name) k
   case true =>
    have HE4 := tr_ HE3 (if_pos hd)
    have HR2 := hi_ (HR.out.trans (firstE_some hlt HPre.out HE4.out))
    go_wp2_with fail
    refine (when_true _ _ _ rfl).mono ?_
    rintro e w' ⟨rfl, rfl⟩
    go_wp2_with fail
    refine (require_bad 7 1 k 0 _ rfl).mono ?_
    rintro e w' ⟨rfl, rfl⟩
    go_wp2
    exact ⟨rfl, by rw [HR2.out]; rfl, below_step HW.out (below_step HB1.out HB)⟩
   have HE4 := tr_ HE3 (if_neg (by rw [hd]; simp))
   go_wp2_with fail
   refine (when_false _ _ _ rfl).mono ?_
   rintro e w' ⟨rfl, rfl⟩
   go_wp2_with fail
   refine (require_ok _ _ _ _).mono ?_
   rintro e w' ⟨rfl, rfl⟩
   go_wp2
   go_roundw
   case rel => exact ⟨k + 1, by omega, by go_num, firstE_step HPre.out HE4.out, HB⟩
   case measure => simp [intOf]; omega
  ·
   have e : k = p.headers.l.length := by omega
   have HR2 := hi_ (HR.out.trans (firstE_none (by rw [← e]; exact HPre.out)))
   go_wp2
   go_end0
   exact ⟨by rw [HR2.out]; rfl, below_step HW.out (below_step HB1.out HB)⟩
theorem sized_any (nm : ByteArray) (wd sz : Int) (w : World) :
  Calls Tryz.prog 154 #[.agg #[.string nm, .int .i64 wd, .int .i64 sz]] w fun e w' => e = .returned (.bool (decide (1 ≤ sz) && decide (sz ≤ 64))) ∧ Below w.heap.size w w' := by
 go_enter Tryz.func154, Tryz.ntmps154
 go_wp2
 all_goals (go_ret; exact ⟨ret_bool (by rw [Bool.eq_iff_iff]; simp; omega), below1 _ _⟩)
theorem registerCheck_any (r : RegD) (w : World) (hs : r.name.size ≤ maxLen) :
  Calls Tryz.prog 92 #[.agg #[.string r.name, .int .i64 r.width, .int .i64 r.size]] w fun e w' => e = .returned (.int .i64 (regM r)) ∧ Below w.heap.size w w' := by
 obtain ⟨nm, wd, sz⟩ := r
 have HS := hi_ hs
 obtain ⟨W, hW, hw, HB, hp⟩ := box1 w #[.string nm, .int .i64 wd, .int .i64 sz] 100
 have HW := hi_ hw
 clear hs hw
 have HR : Hid (regM ⟨nm, wd, sz⟩ = if ident nm = false then 6 else if okW wd = false then 10 else if sz < 1 ∨ 64 < sz then 9 else 0) := hi_ rfl
 have hz := mask_zero wd
 go_enter Tryz.func92, Tryz.ntmps92
 go_wp2_with fail
 rw [← hW]
 clear hW
 refine (isIdent_any nm _ HS.out).mono ?_
 rintro e w' ⟨rfl, rfl⟩
 cases h1 : identM nm.data.toList
 ·
  replace HR := tr_ HR (if_pos (show ident nm = false from h1))
  go_wp2
  go_ret
  exact ⟨by rw [HR.out]; rfl, below_step HW.out HB⟩
 replace HR := tr_ HR (if_neg (show ¬ ident nm = false by rw [show ident nm = true from h1]; simp))
 go_wp2_with fail
 refine (mask_any wd _).mono ?_
 rintro e w1 ⟨rfl, hbN⟩
 replace HB := below_step (by first | exact HB | exact ba1 HB | exact ba2 HB | exact ba3 HB) hbN
 clear hbN
 cases h2 : okW wd
 ·
  replace HR := tr_ HR (if_pos h2)
  rw [h2] at hz
  go_wp2
  go_ret
  exact ⟨by rw [HR.out]; rfl, below_step HW.out HB⟩
 replace HR := tr_ HR (if_neg (show ¬ okW wd = false by rw [h2]; simp))
 rw [h2] at hz
 go_wp2_with fail
 refine (sized_any nm wd sz _).mono ?_
 rintro e w2 ⟨rfl, hbN⟩
 replace HB := below_step (by first | exact HB | exact ba1 HB | exact ba2 HB | exact ba3 HB) hbN
 clear hbN
 cases h3 : (decide (1 ≤ sz) && decide (sz ≤ 64))
 ·
  replace HR := tr_ HR (if_pos (by simp at h3; omega))
  go_wp2
  go_ret
  exact ⟨by rw [HR.out]; rfl, below_step HW.out HB⟩
 ·
  replace HR := tr_ HR (if_neg (by simp at h3; omega))
  go_wp2
  go_ret
  exact ⟨by rw [HR.out]; rfl, below_step HW.out HB⟩
theorem checkLimits_any (p : ProgD) (w : World) (hs : p.name.size ≤ maxLen) :
  Calls Tryz.prog 39 #[p.val] w fun e w' => e = outE (limM p) ∧ Below w.heap.size w w' := by
 have HS := hi_ hs
 clear hs
 obtain ⟨W, hW, hb, H0, hp⟩ := prog_box w p 31
 have HB := hi_ hb
 clear hb
 simp only [ProgD.val, L.v]
 go_enter Tryz.func39, Tryz.ntmps39
 go_wp2_with fail
 rw [← hW]
 clear hW
 refine (identifier_any p.name _ HS.out).mono ?_
 rintro e w' ⟨rfl, rfl⟩
 by_cases k1 : ident p.name = false
 ·
  have HR := hi_ (show limM p = some ⟨6, 0, 0, 0⟩ by rw [limM, if_pos k1])
  rw [k1]
  go_wp2_with fail
  refine (when_true _ _ _ rfl).mono ?_
  rintro e w' ⟨rfl, rfl⟩
  go_wp2_with fail
  refine (require_bad 6 0 0 0 _ rfl).mono ?_
  rintro e w' ⟨rfl, rfl⟩
  go_wp2
  exact ⟨rfl, by rw [HR.out]; rfl, HB.out⟩
 have k1' : ident p.name = true := by simpa using k1
 rw [k1']
 go_wp2_with fail
 refine (when_false _ _ _ rfl).mono ?_
 rintro e w' ⟨rfl, rfl⟩
 go_wp2_with fail
 refine (require_ok _ _ _ _).mono ?_
 rintro e w' ⟨rfl, rfl⟩
 by_cases k2 : 8 < p.headers.l.length
 ·
  have HR := hi_ (show limM p = some ⟨12, 0, 1, 0⟩ by rw [limM, if_neg k1, if_pos k2])
  go_wp2_with fail
  refine (when_true _ _ _ (by first | rfl | (simp; omega))).mono ?_
  rintro e w' ⟨rfl, rfl⟩
  go_wp2_with fail
  refine (require_bad 12 0 1 0 _ rfl).mono ?_
  rintro e w' ⟨rfl, rfl⟩
  go_wp2
  exact ⟨rfl, by rw [HR.out]; rfl, HB.out⟩
 go_wp2_with fail
 refine (when_false _ _ _ (by first | rfl | (simp; omega))).mono ?_
 rintro e w' ⟨rfl, rfl⟩
 go_wp2_with fail
 refine (require_ok _ _ _ _).mono ?_
 rintro e w' ⟨rfl, rfl⟩
 by_cases k3 : 4 < p.registers.l.length
 ·
  have HR := hi_ (show limM p = some ⟨12, 0, 3, 0⟩ by rw [limM, if_neg k1, if_neg k2, if_pos k3])
  go_wp2_with fail
  refine (when_true _ _ _ (by first | rfl | (simp; omega))).mono ?_
  rintro e w' ⟨rfl, rfl⟩
  go_wp2_with fail
  refine (require_bad 12 0 3 0 _ rfl).mono ?_
  rintro e w' ⟨rfl, rfl⟩
  go_wp2
  exact ⟨rfl, by rw [HR.out]; rfl, HB.out⟩
 go_wp2_with fail
 refine (when_false _ _ _ (by first | rfl | (simp; omega))).mono ?_
 rintro e w' ⟨rfl, rfl⟩
 go_wp2_with fail
 refine (require_ok _ _ _ _).mono ?_
 rintro e w' ⟨rfl, rfl⟩
 by_cases k4 : 16 < p.actions.l.length
 ·
  have HR := hi_ (show limM p = some ⟨12, 0, 4, 0⟩ by rw [limM, if_neg k1, if_neg k2, if_neg k3, if_pos k4])
  go_wp2_with fail
  refine (when_true _ _ _ (by first | rfl | (simp; omega))).mono ?_
  rintro e w' ⟨rfl, rfl⟩
  go_wp2_with fail
  refine (require_bad 12 0 4 0 _ rfl).mono ?_
  rintro e w' ⟨rfl, rfl⟩
  go_wp2
  exact ⟨rfl, by rw [HR.out]; rfl, HB.out⟩
 go_wp2_with fail
 refine (when_false _ _ _ (by first | rfl | (simp; omega))).mono ?_
 rintro e w' ⟨rfl, rfl⟩
 go_wp2_with fail
 refine (require_ok _ _ _ _).mono ?_
 rintro e w' ⟨rfl, rfl⟩
 by_cases k5 : 12 < p.tables.l.length
 ·
  have HR := hi_ (show limM p = some ⟨12, 0, 5, 0⟩ by rw [limM, if_neg k1, if_neg k2, if_neg k3, if_neg k4, if_pos k5])
  go_wp2_with fail
  refine (when_true _ _ _ (by first | rfl | (simp; omega))).mono ?_
  rintro e w' ⟨rfl, rfl⟩
  go_wp2_with fail
  refine (require_bad 12 0 5 0 _ rfl).mono ?_
  rintro e w' ⟨rfl, rfl⟩
  go_wp2
  exact ⟨rfl, by rw [HR.out]; rfl, HB.out⟩
 have HR := hi_ (show limM p = none by rw [limM, if_neg k1, if_neg k2, if_neg k3, if_neg k4, if_neg k5])
 go_wp2_with fail
 refine (when_false _ _ _ (by first | rfl | (simp; omega))).mono ?_
 rintro e w' ⟨rfl, rfl⟩
 go_wp2_with fail
 refine (require_ok _ _ _ _).mono ?_
 rintro e w' ⟨rfl, rfl⟩
 go_wp2
 go_end0
 exact ⟨by rw [HR.out]; rfl, HB.out⟩
theorem regAtM_at (l : List RegD) (k : Nat) (h : k < l.length) : regAtM l k = if regM l[k] ≠ 0 then some ⟨regM l[k], 3, k, 0⟩ else if dupB (l.map RegD.name) k = true then some ⟨7, 3, k, 0⟩ else none := by
 rw [regAtM, List.getElem?_eq_getElem h]
theorem actAtM_at (p : ProgD) (k : Nat) (h : k < p.actions.l.length) : actAtM p k = if (actM p p.actions.l[k]).2 ≠ 0 then some ⟨(actM p p.actions.l[k]).2, 4, k, (actM p p.actions.l[k]).1⟩ else if dupB (p.actions.l.map ActD.name) k = true then some ⟨7, 4, k, 0⟩ else none := by
 rw [actAtM, List.getElem?_eq_getElem h]
theorem tabAtM_at (p : ProgD) (k : Nat) (h : k < p.tables.l.length) : tabAtM p k = if (tabM p p.tables.l[k]).2 ≠ 0 then some ⟨(tabM p p.tables.l[k]).2, 5, k, (tabM p p.tables.l[k]).1⟩ else if dupB (p.tables.l.map TabD.name) k = true then some ⟨7, 5, k, 0⟩ else none := by
 rw [tabAtM, List.getElem?_eq_getElem h]
def objsM (p : ProgD) : Option DiagD := orE (regsM p) (orE (actsM p) (tabsM p))
theorem objs1 {p : ProgD} {d : DiagD} (h : regsM p = some d) : objsM p = some d := by rw [objsM, h]; rfl
theorem objs2 {p : ProgD} (h : regsM p = none) : objsM p = orE (actsM p) (tabsM p) := by rw [objsM, h]; rfl
theorem or1 {α : Type} {a b : Option α} {d : α} (h : a = some d) : orE a b = some d := by rw [h]; rfl
theorem or2 {α : Type} {a b : Option α} (h : a = none) : orE a b = b := by rw [h]; rfl
theorem checkObjects_any (p : ProgD) (w : World) (o : ProgOk w p) (hr : p.registers.l.length ≤ 100) (ha : p.actions.l.length ≤ 100) (ht : p.tables.l.length ≤ 100)
  (hc1 : ∀ a ∈ p.actions.l, a.params.l.length ≤ a.params.c) (hc2 : ∀ t ∈ p.tables.l, (Lit.int .i64 t.defA).wf = true) :
  Calls Tryz.prog 42 #[.agg (progCells p)] w fun e w' => e = outE (objsM p) ∧ Below w.heap.size w w' := by
 obtain ⟨W, hW, hw, HB, hp⟩ := box1 w (progCells p) 31
 have HW := hi_ hw
 have HOW := hi_ (o.below hw)
 have HRr := hi_ (regsM.eq_1 p)
 have HRa := hi_ (actsM.eq_1 p)
 have HRt := hi_ (tabsM.eq_1 p)
 have HSr := hi_ (regAtM_at p.registers.l)
 have HSa := hi_ (actAtM_at p)
 have HSt := hi_ (tabAtM_at p)
 have HL := hi_ (And.intro hr (And.intro ha ht))
 have HLK := hi_ HOW.out.registers
 have HNr := hi_ (fun w' (h : Below W.heap.size W w') => names_register p.registers w' (HOW.out.registers.below h (Nat.le_refl _)) hr)
 have HNa := hi_ (fun w' (h : Below W.heap.size W w') => names_action p.actions w' (HOW.out.actions.below h (Nat.le_refl _)) ha)
 have HNt := hi_ (fun w' (h : Below W.heap.size W w') => names_table p.tables w' (HOW.out.tables.below h (Nat.le_refl _)) ht)
 have HCa := hi_ (fun k hk w' (h : Below W.heap.size W w') => actionCheck_any p k hk w' (HOW.out.below h) hc1)
 have HCt := hi_ (fun k hk w' (h : Below W.heap.size W w') => tableCheck_any p k hk w' (HOW.out.below h) hc2)
 have HRN : Hid (∀ r ∈ p.registers.l, r.name.size ≤ maxLen) := hi_ HOW.out.rnames
 clear o hw hc1 hc2
 obtain ⟨⟨rl, rA, rc⟩, hreg⟩ : ∃ x, p.registers = x := ⟨_, rfl⟩
 simp only [progCells, hreg] at hp hW ⊢
 rw [hreg] at hr HLK HSr HRN
 have HREG := hi_ hreg
 simp only at hr HSr HRN
 clear hreg
 go_enter Tryz.func42, Tryz.ntmps42
 go_upto_region 1 with fail
 rw [← hW]
 clear hW
 go_wp2_with fail
 have hn := HNr.out W HB
 rw [HREG.out] at hn
 refine hn.mono ?_
 clear hn
 rintro e w1 ⟨A, c, rfl, hown, hb1⟩
 have HOwn := hi_ hown
 replace HB := below_step HB hb1
 have HB1 := hi_ HB
 clear hb1 hown
 simp only
 go_wp2
 clear HB
 go_loopw [3, 4, 17] (fun _ _ iv wr => ∃ k : Nat, k ≤ rl.length ∧ iv = .int .i64 k ∧ (∀ j, j < k → regAtM rl j = none) ∧ Below w1.heap.size w1 wr) (fun _ _ i _ => rl.length - (intOf i).toNat)
 case atStart => exact ⟨0, Nat.zero_le _, rfl, fun j h => absurd h (Nat.not_lt_zero _), Below.refl _ _⟩
 case round =>
  obtain ⟨k, hk, rfl, hpre, HB⟩ := hrel
  have HPre := hi_ hpre
  clear hpre
  by_cases hlt : k < rl.length
  ·
   obtain ⟨g, of, hA, d0, d1, d2⟩ := RegD.at (HLK.out.below (below_step HB1.out HB) (Nat.le_refl _)) hlt
   have HE := hi_ (HSr.out k hlt)
   have HNk := hi_ (HRN.out _ (List.getElem_mem hlt))
   simp only at hA d0 d1 d2
   subst hA
   generalize rl[k] = y at *
   obtain ⟨yn, yw, ys⟩ := y
   simp only at HE HNk d0 d1 d2
   obtain ⟨gn, rfl, hg⟩ := OwnStrs.form HOwn.out (show 0 < (rl.map RegD.name).length by rw [List.length_map]; omega)
   have HG := hi_ hg
   clear hg
   have hca := @World.cell?_alloc_some
   go_wp2_with fail
   refine (registerCheck_any ⟨yn, yw, ys⟩ _ HNk.out).mono ?_
   rintro e w2 ⟨rfl, hbN⟩
   replace HB := below_step (by first | exact HB | exact ba1 HB | exact ba2 HB | exact ba3 HB) hbN
   clear hbN
   clear d0 d1 d2 hca
   generalize regM ⟨yn, yw, ys⟩ = rc at *
   by_cases k1 : rc = 0
   case neg =>
    have HE2 := tr_ HE (if_pos k1)
    have HR2 := hi_ (objs1 (HRr.out.trans (show _ = some (⟨rc, 3, k, 0⟩ : DiagD) by rw [HREG.out]; exact firstE_some hlt HPre.out HE2.out)))
    go_wp2_with fail
    refine (require_bad rc 3 k 0 _ (bf_ k1)).mono ?_
    rintro e w' ⟨rfl, rfl⟩
    go_wp2
    exact ⟨rfl, by rw [HR2.out]; rfl, below_step HW.out (below_step HB1.out HB)⟩
   subst k1
   have HE2 := tr_ HE (if_neg (by simp))
   go_wp2_with fail
   refine (require_ok _ _ _ _).mono ?_
   rintro e w' ⟨rfl, rfl⟩
   go_wp2_with fail
   refine (rep_at (rl.map RegD.name) rl.length gn c k w1 _ (by simp) hlt (by omega) HG.out HB).mono ?_
   rintro e w3 ⟨rfl, hbN⟩
   replace HB := below_step (by first | exact HB | exact ba1 HB | exact ba2 HB | exact ba3 HB) hbN
   clear hbN
   cases hd : dupB (rl.map RegD.name) k
   case true =>
    have HE4 := tr_ HE2 (if_pos hd)
    have HR2 := hi_ (objs1 (HRr.out.trans (show _ = some (⟨7, 3, k, 0⟩ : DiagD) by rw [HREG.out]; exact firstE_some hlt HPre.out HE4.out)))
    go_wp2_with fail
    refine (when_true _ _ _ rfl).mono ?_
    rintro e w' ⟨rfl, rfl⟩
    go_wp2_with fail
    refine (require_bad 7 3 k 0 _ rfl).mono ?_
    rintro e w' ⟨rfl, rfl⟩
    go_wp2
    exact ⟨rfl, by rw [HR2.out]; rfl, below_step HW.out (below_step HB1.out HB)⟩
   have HE4 := tr_ HE2 (if_neg (by rw [hd]; simp))
   go_wp2_with fail
   refine (when_false _ _ _ rfl).mono ?_
   rintro e w' ⟨rfl, rfl⟩
   go_wp2_with fail
   refine (require_ok _ _ _ _).mono ?_
   rintro e w' ⟨rfl, rfl⟩
   go_wp2
   go_roundw
   case rel => exact ⟨k + 1, by omega, by go_num, firstE_step HPre.out HE4.out, HB⟩
   case measure => simp [intOf]; omega
  have e : k = rl.length := by omega
  have HR2 := hi_ (objs2 (HRr.out.trans (show _ = (none : Option DiagD) by rw [HREG.out]; exact firstE_none (by rw [← e]; exact HPre.out))))
  have hkx : ¬ ((k : Int) < (rl.length : Int)) := by omega
  replace HB := below_step HB1.out HB
  clear HPre HB1 HOwn hlt e
  go_wp2_with fail
  refine (HNa.out _ HB).mono ?_
  rintro e w4 ⟨A2, c2, rfl, hown, hb1⟩
  have HOwn := hi_ hown
  replace HB := below_step HB hb1
  have HB4 := hi_ HB
  clear hb1 hown
  go_wp2
  have HBb := HB4
  clear HB4
  clear HB
  go_loopw [5, 6, 7, 39] (fun _ _ _ iv wr => ∃ k : Nat, k ≤ p.actions.l.length ∧ iv = .int .i64 k ∧ (∀ j, j < k → actAtM p j = none) ∧ Below w4.heap.size w4 wr) (fun _ _ _ i _ => p.actions.l.length - (intOf i).toNat)
  case atStart => exact ⟨0, Nat.zero_le _, rfl, fun j h => absurd h (Nat.not_lt_zero _), Below.refl _ _⟩
  case round =>
   obtain ⟨k, hk, rfl, hpre, HB⟩ := hrel
   have HPre := hi_ hpre
   clear hpre
   by_cases hlt : k < p.actions.l.length
   ·
    have HE := hi_ (HSa.out k hlt)
    obtain ⟨gn, rfl, hg⟩ := OwnStrs.form HOwn.out (show 0 < (p.actions.l.map ActD.name).length by rw [List.length_map]; omega)
    have HG := hi_ hg
    clear hg
    have hp1 := hp wr (below_step HBb.out HB)
    go_wp2_with fail
    clear hp1
    have hCN := HCa.out k hlt wr (below_step HBb.out HB)
    simp only [progCells, HREG.out] at hCN
    refine hCN.mono ?_
    clear hCN
    rintro e w5 ⟨rfl, hbN⟩
    replace HB := below_step HB hbN
    clear hbN
    generalize actM p p.actions.l[k] = r at *
    obtain ⟨ra, rcd⟩ := r
    simp only at HE
    by_cases k1 : rcd = 0
    case neg =>
     have HE2 := tr_ HE (if_pos k1)
     have HR3 := hi_ (HR2.out.trans (or1 (HRa.out.trans (firstE_some hlt HPre.out HE2.out))))
     go_wp2_with fail
     refine (require_bad rcd 4 k ra _ (bf_ k1)).mono ?_
     rintro e w' ⟨rfl, rfl⟩
     go_wp2
     exact ⟨rfl, by rw [HR3.out]; rfl, below_step HW.out (below_step HBb.out HB)⟩
    subst k1
    have HE2 := tr_ HE (if_neg (by simp))
    go_wp2_with fail
    refine (require_ok _ _ _ _).mono ?_
    rintro e w' ⟨rfl, rfl⟩
    go_wp2_with fail
    refine (rep_at (p.actions.l.map ActD.name) p.actions.l.length gn c2 k w4 _ (by simp) hlt (by have := HL.out; omega) HG.out HB).mono ?_
    rintro e w6 ⟨rfl, hbN⟩
    replace HB := below_step (by first | exact HB | exact ba1 HB | exact ba2 HB | exact ba3 HB) hbN
    clear hbN
    cases hd : dupB (p.actions.l.map ActD.name) k
    case true =>
     have HE4 := tr_ HE2 (if_pos hd)
     have HR3 := hi_ (HR2.out.trans (or1 (HRa.out.trans (firstE_some hlt HPre.out HE4.out))))
     go_wp2_with fail
     refine (when_true _ _ _ rfl).mono ?_
     rintro e w' ⟨rfl, rfl⟩
     go_wp2_with fail
     refine (require_bad 7 4 k 0 _ rfl).mono ?_
     rintro e w' ⟨rfl, rfl⟩
     go_wp2
     exact ⟨rfl, by rw [HR3.out]; rfl, below_step HW.out (below_step HBb.out HB)⟩
    have HE4 := tr_ HE2 (if_neg (by rw [hd]; simp))
    go_wp2_with fail
    refine (when_false _ _ _ rfl).mono ?_
    rintro e w' ⟨rfl, rfl⟩
    go_wp2_with fail
    refine (require_ok _ _ _ _).mono ?_
    rintro e w' ⟨rfl, rfl⟩
    go_wp2
    go_roundw
    case rel => exact ⟨k + 1, by omega, by go_num, firstE_step HPre.out HE4.out, HB⟩
    case measure => simp [intOf]; omega
   have e : k = p.actions.l.length := by omega
   have HR3 := hi_ (HR2.out.trans (or2 (HRa.out.trans (firstE_none (by rw [← e]; exact HPre.out)))))
   have hkx : ¬ ((k : Int) < (p.actions.l.length : Int)) := by omega
   replace HB := below_step HBb.out HB
   clear HPre HBb HOwn hlt e HR2
   have HR2 := HR3
   clear HR3
   go_wp2_with fail
   refine (HNt.out _ HB).mono ?_
   rintro e w7 ⟨A2, c2, rfl, hown, hb1⟩
   have HOwn := hi_ hown
   replace HB := below_step HB hb1
   have HBb := hi_ HB
   clear hb1 hown
   go_wp2
   clear HB
   go_loopw [8, 9, 10, 65] (fun _ _ _ iv wr => ∃ k : Nat, k ≤ p.tables.l.length ∧ iv = .int .i64 k ∧ (∀ j, j < k → tabAtM p j = none) ∧ Below w7.heap.size w7 wr) (fun _ _ _ i _ => p.tables.l.length - (intOf i).toNat)
   case atStart => exact ⟨0, Nat.zero_le _, rfl, fun j h => absurd h (Nat.not_lt_zero _), Below.refl _ _⟩
   case round =>
    obtain ⟨k, hk, rfl, hpre, HB⟩ := hrel
    have HPre := hi_ hpre
    clear hpre
    by_cases hlt : k < p.tables.l.length
    ·
     have HE := hi_ (HSt.out k hlt)
     obtain ⟨gn, rfl, hg⟩ := OwnStrs.form HOwn.out (show 0 < (p.tables.l.map TabD.name).length by rw [List.length_map]; omega)
     have HG := hi_ hg
     clear hg
     have hp1 := hp wr (below_step HBb.out HB)
     go_wp2_with fail
     clear hp1
     have hCN := HCt.out k hlt wr (below_step HBb.out HB)
     simp only [progCells, HREG.out] at hCN
     refine hCN.mono ?_
     clear hCN
     rintro e w5 ⟨rfl, hbN⟩
     replace HB := below_step HB hbN
     clear hbN
     generalize tabM p p.tables.l[k] = r at *
     obtain ⟨ra, rcd⟩ := r
     simp only at HE
     by_cases k1 : rcd = 0
     case neg =>
      have HE2 := tr_ HE (if_pos k1)
      have HR3 := hi_ (HR2.out.trans (HRt.out.trans (firstE_some hlt HPre.out HE2.out)))
      go_wp2_with fail
      refine (require_bad rcd 5 k ra _ (bf_ k1)).mono ?_
      rintro e w' ⟨rfl, rfl⟩
      go_wp2
      exact ⟨rfl, by rw [HR3.out]; rfl, below_step HW.out (below_step HBb.out HB)⟩
     subst k1
     have HE2 := tr_ HE (if_neg (by simp))
     go_wp2_with fail
     refine (require_ok _ _ _ _).mono ?_
     rintro e w' ⟨rfl, rfl⟩
     go_wp2_with fail
     refine (rep_at (p.tables.l.map TabD.name) p.tables.l.length gn c2 k w7 _ (by simp) hlt (by have := HL.out; omega) HG.out HB).mono ?_
     rintro e w6 ⟨rfl, hbN⟩
     replace HB := below_step (by first | exact HB | exact ba1 HB | exact ba2 HB | exact ba3 HB) hbN
     clear hbN
     cases hd : dupB (p.tables.l.map TabD.name) k
     case true =>
      have HE4 := tr_ HE2 (if_pos hd)
      have HR3 := hi_ (HR2.out.trans (HRt.out.trans (firstE_some hlt HPre.out HE4.out)))
      go_wp2_with fail
      refine (when_true _ _ _ rfl).mono ?_
      rintro e w' ⟨rfl, rfl⟩
      go_wp2_with fail
      refine (require_bad 7 5 k 0 _ rfl).mono ?_
      rintro e w' ⟨rfl, rfl⟩
      go_wp2
      exact ⟨rfl, by rw [HR3.out]; rfl, below_step HW.out (below_step HBb.out HB)⟩
     have HE4 := tr_ HE2 (if_neg (by rw [hd]; simp))
     go_wp2_with fail
     refine (when_false _ _ _ rfl).mono ?_
     rintro e w' ⟨rfl, rfl⟩
     go_wp2_with fail
     refine (require_ok _ _ _ _).mono ?_
     rintro e w' ⟨rfl, rfl⟩
     go_wp2
     go_roundw
     case rel => exact ⟨k + 1, by omega, by go_num, firstE_step HPre.out HE4.out, HB⟩
     case measure => simp [intOf]; omega
    have e : k = p.tables.l.length := by omega
    have HR3 := hi_ (HR2.out.trans (HRt.out.trans (firstE_none (by rw [← e]; exact HPre.out))))
    go_wp2
    go_end0
    exact ⟨by rw [HR3.out]; rfl, below_step HW.out (below_step HBb.out HB)⟩
def kindT (l : List KeyD) : Int := if l.any (fun k => decide (k.kind = 3)) = true then 3 else if l.any (fun k => decide (k.kind = 2)) = true then 2 else 1
structure TabFine (p : ProgD) (t : TabD) : Prop where
 ok : (tabM p t).2 = 0
 size : 1 ≤ t.size ∧ t.size ≤ 256
 keys : t.keys.l.length ≤ 6
 acts : t.acts.l.length ≤ 16
 kinds : ∀ k ∈ t.keys.l, k.kind = 1 ∨ k.kind = 2 ∨ k.kind = 3
 bits : 0 ≤ bitsM p t.keys.l ∧ bitsM p t.keys.l ≤ 64
 mem : ∀ a ∈ t.acts.l, 0 ≤ a ∧ a < (p.actions.l.length : Int)
def ParFine (p : ProgD) : Prop := ∀ a ∈ p.actions.l, a.params.l.length ≤ 4 ∧ ∀ f ∈ a.params.l, 1 ≤ f.width ∧ f.width ≤ 32
theorem orE_none {α : Type} {a b : Option α} (h : orE a b = none) : a = none ∧ b = none := by
 cases a
 · exact ⟨rfl, h⟩
 · cases h
theorem check_parts {p : ProgD} (h : checkM p = none) : actsM p = none ∧ tabsM p = none := by
 unfold checkM at h
 have h1 := (orE_none h).2
 have h2 := (orE_none h1).2
 have h3 := (orE_none h2).2
 have h4 := (orE_none h3).2
 have h5 := orE_none h4
 exact ⟨h5.1, (orE_none h5.2).1⟩
theorem par_fine {p : ProgD} (h : checkM p = none) : ParFine p := by
 intro a ha
 obtain ⟨k, hk, rfl⟩ := List.mem_iff_getElem.1 ha
 have h1 := firstE_inv (check_parts h).1 k hk
 rw [actAtM_at p k hk] at h1
 by_cases h2 : (actM p p.actions.l[k]).2 ≠ 0
 · rw [if_pos h2] at h1; cases h1
 ·
  generalize p.actions.l[k] = a at *
  rw [actM_eq] at h2
  by_cases h3 : declarM a ≠ 0
  · rw [if_pos h3] at h2; exact absurd h3 h2
  ·
   have h4 : declarM a = 0 := Classical.byContradiction h3
   rw [declarM_eq] at h4
   split at h4
   · cases h4
   split at h4
   · cases h4
   rename_i _ h5
   refine ⟨by omega, fun f hf => ?_⟩
   obtain ⟨j, hj, rfl⟩ := List.mem_iff_getElem.1 hf
   have h6 : firstE a.params.l.length (fldM a.params.l) = none := by
    rcases hfe : firstE a.params.l.length (fldM a.params.l) with _ | e
    · rfl
    ·
     exfalso
     have h7 : fldsM a.params.l = e := by rw [fldsM, hfe]
     rw [h7] at h4
     subst h4
     obtain ⟨i, hi, h8, _⟩ := firstE_ex hfe
     rw [fldM_at _ i hi] at h8
     split at h8
     · cases h8
     split at h8
     · cases h8
     split at h8
     · cases h8
     · cases h8
   have h7 := firstE_inv h6 j hj
   rw [fldM_at _ j hj] at h7
   split at h7
   · cases h7
   split at h7
   · cases h7
   rename_i _ h8
   have h9 : okW a.params.l[j].width = true := by
    cases ho : okW a.params.l[j].width
    · exact absurd ho h8
    · rfl
   have := okW_iff.1 h9
   omega
theorem tab_fine {p : ProgD} (h : checkM p = none) {k : Nat} (hk : k < p.tables.l.length) : TabFine p p.tables.l[k] := by
 have h1 := firstE_inv (check_parts h).2 k hk
 rw [tabAtM_at p k hk] at h1
 by_cases h2 : (tabM p p.tables.l[k]).2 ≠ 0
 · rw [if_pos h2] at h1; cases h1
 ·
  have h3 : (tabM p p.tables.l[k]).2 = 0 := Classical.byContradiction h2
  generalize p.tables.l[k] = t at *
  have hb := bitsM_le p t.keys.l
  have h4 := h3
  unfold tabM at h4
  split at h4
  · cases h4
  split at h4
  · cases h4
  rename_i _ h5
  split at h4
  · cases h4
  rename_i h6
  split at h4
  ·
   rename_i h7
   exact absurd h4 h7
  rename_i h7
  split at h4
  ·
   rename_i h8
   exact absurd h4 h8
  rename_i h8
  have h7' : (keysM p t.keys.l).2 = 0 := Classical.byContradiction h7
  have h8' : tactsM p t = 0 := Classical.byContradiction h8
  refine ⟨h3, by omega, by omega, by omega, fun x hx => ?_, ⟨hb.1, ?_⟩, fun a ha => ?_⟩
  ·
   obtain ⟨j, hj, rfl⟩ := List.mem_iff_getElem.1 hx
   unfold keysM at h7'
   rcases hfe : firstE t.keys.l.length (keyAtM p t.keys.l) with _ | r
   ·
    have h9 := firstE_inv hfe j hj
    rw [keyAtM_at p _ j hj] at h9
    split at h9
    · cases h9
    split at h9
    · cases h9
    rename_i _ h10
    exact Classical.byContradiction fun hn => h10 hn
   ·
    exfalso
    rw [hfe] at h7'
    obtain ⟨i, hi, h9, _⟩ := firstE_ex hfe
    rw [keyAtM_at p _ i hi] at h9
    split at h9
    · cases h9; cases h7'
    split at h9
    · cases h9; cases h7'
    cases h9
  ·
   unfold keysM at h7'
   rcases hfe : firstE t.keys.l.length (keyAtM p t.keys.l) with _ | r
   ·
    rw [hfe] at h7'
    simp only at h7'
    split at h7'
    · cases h7'
    split at h7'
    · cases h7'
    omega
   ·
    exfalso
    rw [hfe] at h7'
    obtain ⟨i, hi, h9, _⟩ := firstE_ex hfe
    rw [keyAtM_at p _ i hi] at h9
    split at h9
    · cases h9; cases h7'
    split at h9
    · cases h9; cases h7'
    cases h9
  ·
   obtain ⟨j, hj, rfl⟩ := List.mem_iff_getElem.1 ha
   rw [tactsM_eq] at h8'
   rcases hfe : firstE t.acts.l.length (tactAtM p t.acts.l) with _ | e
   ·
    have h9 := firstE_inv hfe j hj
    rw [tactAtM_at p _ j hj] at h9
    split at h9
    · cases h9
    rename_i h10
    omega
   ·
    exfalso
    rw [hfe] at h8'
    simp only at h8'
    subst h8'
    obtain ⟨i, hi, h9, _⟩ := firstE_ex hfe
    rw [tactAtM_at p _ i hi] at h9
    split at h9
    · cases h9
    split at h9
    · cases h9
    cases h9
theorem tvalid_any (p : ProgD) (i : Nat) (hi : i < p.tables.l.length) (w : World) (o : ProgOk w p) (hc : ∀ t ∈ p.tables.l, (Lit.int .i64 t.defA).wf = true) (hv : (tabM p p.tables.l[i]).2 = 0) :
  Calls Tryz.prog 223 #[.agg (progCells p), .int .i64 i] w fun e w' => e = .returned (.bool true) ∧ Below w.heap.size w w' := by
 have HO := hi_ o
 have HC := hi_ hc
 obtain ⟨W, hW, hw, HB, hp⟩ := box1 w (progCells p) 31
 have HW := hi_ hw
 have HT := hi_ (fun u (hb : Below W.heap.size W u) => tableCheck_any p i hi u (HO.out.below (below_step HW.out hb)) HC.out)
 clear o hw hc
 rw [hv] at HT
 clear hv
 go_enter Tryz.func223, Tryz.ntmps223
 go_upto_region 1 with fail
 rw [← hW]
 clear hW
 have hp3 := hp W HB
 go_wp2_with fail
 refine (HT.out _ (by first | exact HB | exact ba1 HB | exact ba2 HB | exact ba3 HB)).mono ?_
 rintro e w1 ⟨rfl, hbN⟩
 replace HB := below_step (by first | exact HB | exact ba1 HB | exact ba2 HB | exact ba3 HB) hbN
 clear hbN
 go_wp2
 go_ret
 exact ⟨rfl, below_step HW.out HB⟩
theorem tkind_any (p : ProgD) (i : Nat) (hi : i < p.tables.l.length) (w : World) (o : ProgOk w p) (hc : ∀ t ∈ p.tables.l, (Lit.int .i64 t.defA).wf = true) (hf : TabFine p p.tables.l[i]) :
  Calls Tryz.prog 169 #[.agg (progCells p), .int .i64 i] w fun e w' => e = .returned (.int .i64 (kindT p.tables.l[i].keys.l)) ∧ Below w.heap.size w w' := by
 have HO := hi_ o
 obtain ⟨W, hW, hw, HB, hp⟩ := box1 w (progCells p) 31
 have HW := hi_ hw
 have hvl := fun u (hb : Below W.heap.size W u) => tvalid_any p i hi u (o.below (below_step hw hb)) hc hf.ok
 have HK := hi_ ((o.tab _ (List.getElem_mem hi)).below hw).keys
 have HKd := hi_ hf.kinds
 obtain ⟨g, of, hA, hq⟩ := TabD.atA (o.tables.below hw (Nat.le_refl _)) hi
 have hn1 : (i : Int) < (p.tables.l.length : Int) := by omega
 clear o hw hc hf
 generalize p.tables.l[i] = t at *
 obtain ⟨tn, ⟨kl, kA, kc⟩, ta, td, tg, tz⟩ := t
 simp only at hq HK HKd ⊢
 have HR := hi_ (kindT.eq_1 kl)
 simp only [progCells, hA] at hp hW hvl ⊢
 have HVl := hi_ hvl
 have hmk : kl.length ≤ 9223372036854775807 := HK.out.1
 clear hA hvl
 go_enter Tryz.func169, Tryz.ntmps169
 go_upto_region 1 with fail
 rw [← hW]
 clear hW
 have hp3 := hp W HB
 go_wp2_with fail
 refine (HVl.out _ (by first | exact HB | exact ba1 HB | exact ba2 HB | exact ba3 HB)).mono ?_
 rintro e w1 ⟨rfl, hbN⟩
 replace HB := below_step (by first | exact HB | exact ba1 HB | exact ba2 HB | exact ba3 HB) hbN
 clear hbN
 clear hp3
 have hp3 := hp _ HB
 have hq3 := hq _ HB
 have HB1 := hi_ HB
 go_wp2
 clear HB hp3 hq3
 go_loopw [5, 7, 19] (fun bv _ iv wr => ∃ (k : Nat) (z : Int), k ≤ kl.length ∧ iv = .int .i64 k ∧ Hid (∀ j (hj : j < kl.length), j < k → kl[j].kind ≠ 3) ∧ bv = .int .i64 z ∧ Hid (z = if (kl.take k).any (fun k => decide (k.kind = 2)) = true then 2 else 1) ∧ Below W.heap.size W wr) (fun _ _ i _ => kl.length - (intOf i).toNat)
 case atStart => exact ⟨0, 1, Nat.zero_le _, rfl, hi_ (fun j _ h => absurd h (Nat.not_lt_zero _)), rfl, hi_ rfl, HB1.out⟩
 case round =>
  obtain ⟨k, z, hk, rfl, HN, rfl, HZv, HB⟩ := hrel
  by_cases hlt : k < kl.length
  ·
   obtain ⟨g2, of2, hA2, d0, d1, d2⟩ := KeyD.at (HK.out.below HB (Nat.le_refl _)) hlt
   have HKk := hi_ (HKd.out _ (List.getElem_mem hlt))
   have HY : Hid (kl[k].kind = 3 → kindT kl = 3) := hi_ (fun e => HR.out.trans (if_pos (any_yes hlt (decide_eq_true e))))
   have HZ : Hid (kl[k].kind ≠ 3 → ∀ j (hj : j < kl.length), j < k + 1 → kl[j].kind ≠ 3) := hi_ (fun hne => pre_ne (f := fun _ (a : KeyD) => a.kind ≠ 3) HN.out hne)
   have HT : Hid ((kl.take (k + 1)).any (fun k => decide (k.kind = 2)) = ((kl.take k).any (fun k => decide (k.kind = 2)) || decide (kl[k].kind = 2))) := hi_ (by
    rw [take_snoc kl k hlt, List.any_append]; simp)
   simp only at hA2 d0 d1 d2
   subst hA2
   generalize kl[k] = y at *
   obtain ⟨yh, yf, yk⟩ := y
   simp only at d0 d1 d2 HKk HY HZ HT
   generalize (kl.take k).any (fun k => decide (k.kind = 2)) = bk at *
   rcases HKk.out with rfl | rfl | rfl
   ·
    have HZ2 := hi_ (HZ.out (by decide))
    have HZ3 : Hid (z = if (kl.take (k + 1)).any (fun k => decide (k.kind = 2)) = true then 2 else 1) := hi_ (by rw [HZv.out, HT.out]; simp)
    clear HT HZv
    go_wp2
    go_roundw
    case rel => exact ⟨k + 1, z, by omega, by go_num, HZ2, rfl, HZ3, below_alloc HB _⟩
    case measure => simp [intOf]; omega
   ·
    have HZ2 := hi_ (HZ.out (by decide))
    have HZ3 : Hid ((2 : Int) = if (kl.take (k + 1)).any (fun k => decide (k.kind = 2)) = true then 2 else 1) := hi_ (by rw [HT.out]; simp)
    clear HT HZv
    go_wp2
    go_roundw
    case rel => exact ⟨k + 1, 2, by omega, by go_num, HZ2, rfl, HZ3, below_alloc HB _⟩
    case measure => simp [intOf]; omega
   ·
    have HY2 := hi_ (HY.out rfl)
    go_wp2
    go_ret
    exact ⟨by rw [HY2.out]; rfl, below_step HW.out (below_alloc HB _)⟩
  ·
   have e : k = kl.length := by omega
   have HR2 : Hid (kindT kl = z) := hi_ (by
    have h := HZv.out
    rw [e, List.take_length] at h
    rw [h]
    exact HR.out.trans (if_neg (by rw [any_no (f := fun k : KeyD => decide (k.kind = 3)) (fun j hj => decide_eq_false (HN.out j hj (by omega)))]; simp)))
   go_wp2
   go_ret
   exact ⟨by rw [HR2.out]; rfl, below_step HW.out HB⟩
def pmaskM (n w : Nat) : Nat := 2 ^ w - 2 ^ (w - n)
def prefixM (m w : Int) : Bool := okW w && (List.range (w.toNat + 1)).any fun n => decide ((pmaskM n w.toNat : Int) = m)
theorem pmask_bits (n w : Nat) (h : n ≤ w) (hw : w ≤ 32) (h1 : 1 ≤ w) : bits .andNot .u32 (maskM w : Int) ((maskM w : Int) / 2 ^ n) = (pmaskM n w : Int) := by
 have h : ∀ a b : Fin 33, b.1 ≤ a.1 → 1 ≤ a.1 → bits .andNot .u32 (maskM a.1 : Int) ((maskM a.1 : Int) / 2 ^ b.1) = (pmaskM b.1 a.1 : Int) := by decide +kernel
 exact h ⟨w, by omega⟩ ⟨n, by omega⟩ (by assumption) h1
theorem pmask_any (n w : Nat) (hn : n ≤ w) (hw : w ≤ 32) (h1 : 1 ≤ w) (u : World) :
  Calls Tryz.prog 256 #[.int .i64 n, .int .i64 w] u fun e w' => e = .returned (.int .u32 (pmaskM n w)) ∧ Below u.heap.size u w' := by
 have hb : Below u.heap.size u (u.alloc (.cells #[.int .i64 w] 3)) := (Below.refl _ _).alloc (Nat.le_refl _) _
 have HV := hi_ (show okW (w : Int) = true by rw [okW]; simp; omega)
 have HE := hi_ (pmask_bits n w hn hw h1)
 have m1 : max (n : Int) 0 = n := by omega
 have m2 : min (n : Int) w = n := by omega
 have hM := fun u => mask_any (w : Int) u
 generalize hm : (maskM w : Int) = m at *
 have n0 : (n : Int) < 32 + 1 := by omega
 go_enter Tryz.func256, Tryz.ntmps256
 go_wp2_with fail
 refine (valid1_any u.heap.size 1 w _ (by simp)).mono ?_
 rintro e w1 ⟨rfl, rfl⟩
 rw [HV.out]
 go_wp2_with fail
 refine (hM _).mono ?_
 rintro e w1 ⟨rfl, hb1⟩
 go_wp2_with fail
 refine (hM _).mono ?_
 rintro e w2 ⟨rfl, hb2⟩
 go_wp2
 go_ret
 exact ⟨by rw [← HE.out]; rfl, below_step (below_step hb hb1) hb2⟩
theorem prefix_yes {m : Int} {w k : Nat} (hw : okW w = true) (hk : k ≤ w) (h : (pmaskM k w : Int) = m) : prefixM m w = true := by
 rw [prefixM, hw, Int.toNat_natCast, Bool.true_and, List.any_eq_true]
 exact ⟨k, List.mem_range.2 (by omega), decide_eq_true h⟩
theorem prefix_no {m : Int} {w : Nat} (h : ∀ k, k ≤ w → (pmaskM k w : Int) ≠ m) : prefixM m w = false := by
 rw [prefixM, Int.toNat_natCast]
 have : ((List.range (w + 1)).any fun n => decide ((pmaskM n w : Int) = m)) = false := by
  rw [List.any_eq_false]
  intro x hx
  have := h x (by have := List.mem_range.1 hx; omega)
  simpa using this
 rw [this, Bool.and_false]
theorem plen_any (m : Int) (w : Nat) (hw : w ≤ 32) (h1 : 1 ≤ w) (u : World) :
  Calls Tryz.prog 225 #[.int .u32 m, .int .i64 w] u fun e w' => (∃ n : Int, e = .returned (.tuple #[.int .i64 n, .bool (prefixM m w)])) ∧ Below u.heap.size u w' := by
 have hb : Below u.heap.size u (u.alloc (.cells #[.int .i64 w] 3)) := (Below.refl _ _).alloc (Nat.le_refl _) _
 have hv : okW (w : Int) = true := by rw [okW]; simp; omega
 have HV := hi_ hv
 have HY := hi_ (fun (k : Nat) (hk : k ≤ w) => prefix_yes (m := m) hv hk)
 have HN := hi_ (@prefix_no m w)
 have HP := hi_ (fun (k : Nat) (hk : k ≤ w) u => pmask_any k w hk hw h1 u)
 generalize prefixM m w = pr at *
 clear hv
 go_enter Tryz.func225, Tryz.ntmps225
 go_wp2_with fail
 refine (valid1_any u.heap.size 1 w _ (by simp)).mono ?_
 rintro e w1 ⟨rfl, rfl⟩
 rw [HV.out]
 go_wp2
 have HB := hi_ hb
 clear hb
 go_loopw [6, 13] (fun _ iv wr => ∃ k : Nat, k ≤ w + 1 ∧ iv = .int .i64 k ∧ Hid (∀ j, j < k → (pmaskM j w : Int) ≠ m) ∧ Hid (Below u.heap.size u wr)) (fun _ i _ => w + 1 - (intOf i).toNat)
 case atStart => exact ⟨0, by omega, rfl, hi_ (fun j h => absurd h (Nat.not_lt_zero _)), HB⟩
 case round =>
  obtain ⟨k, hk, rfl, HK, HB1⟩ := hrel
  by_cases hlt : k ≤ w
  ·
   by_cases he : (pmaskM k w : Int) = m
   ·
    have HE := hi_ (HY.out k hlt he)
    have hp := HP.out k hlt wr
    generalize hx : (pmaskM k w : Int) = x at *
    subst he
    go_wp2_with fail
    refine hp.mono ?_
    rintro e w1 ⟨rfl, hb1⟩
    go_wp2
    go_ret2
    exact ⟨⟨k, by rw [HE.out]; rfl⟩, below_step HB1.out hb1⟩
   ·
    have HK2 : Hid (∀ j, j < k + 1 → (pmaskM j w : Int) ≠ m) := hi_ (fun j hj => by
     rcases Nat.lt_or_ge j k with h | h
     · exact HK.out j h
     · rw [show j = k by omega]; exact he)
    have hp := HP.out k hlt wr
    generalize hx : (pmaskM k w : Int) = x at *
    have hb' : (x == m) = false := by simpa using he
    clear he hx
    go_wp2_with fail
    refine hp.mono ?_
    rintro e w1 ⟨rfl, hb1⟩
    have HB2 := hi_ (below_step HB1.out hb1)
    clear hb1 hp
    go_wp2
    go_roundw
    case rel => exact ⟨k + 1, by omega, by go_num, HK2, HB2⟩
    case measure => simp [intOf]; omega
  ·
   have HE := hi_ (HN.out (fun j hj => HK.out j (by omega)))
   go_wp2
   go_ret2
   exact ⟨⟨0, by rw [HE.out]; rfl⟩, HB1.out⟩
def notNl (c : Int) : Bool := c != 10
def tokM : Nat → List UInt8 → Nat → List Tk → List Tk × Nat × Nat
 | 0, _, _, out => (out, 0, 0)
 | n + 1, l, at_, out => match l with
  | [] => (out, 0, 0)
  | c :: r =>
   if c = 10 then tokM n r (at_ + 1) out
   else if c = 32 ∨ c = 9 then tokM n r at_ out
   else if c = 35 then tokM n ((c :: r).drop (ext notNl (c :: r))) at_ out
   else if 4096 ≤ out.length then ([], at_, 12)
   else if (nextM (c :: r)).2 = 0 then tokM n ((c :: r).drop (nextM (c :: r)).1.text.length) at_ (out ++ [{ (nextM (c :: r)).1 with line := at_ }])
   else ([], at_, (nextM (c :: r)).2)
def tokenize (l : List UInt8) : List Tk × Nat × Nat := if 16384 < l.length then ([], 0, 4) else tokM l.length l 1 []
theorem sym_le (l : List UInt8) : sym l ≤ l.length := by
 unfold sym
 split
 ·
  rename_i h
  match l, h with
  | [], h => simp [twos] at h
  | [a], h => simp [twos] at h
  | _ :: _ :: _, _ => simp
 ·
  split
  · exact Nat.zero_le _
  · split <;> simp
theorem isWord_let {c : Int} (h : isLet c = true) : isWord c = true := by rw [isWord, h]; rfl
theorem nextM_len (l : List UInt8) (h : (nextM l).2 = 0) : 0 < (nextM l).1.text.length ∧ (nextM l).1.text.length ≤ l.length := by
 match l, h with
 | [], h => cases h
 | c :: r, h =>
  simp only [nextM] at h ⊢
  by_cases h1 : isLet c.toNat = true
  ·
   rw [if_pos h1] at h ⊢
   by_cases h2 : 16 < ext isWord (c :: r)
   · rw [if_pos h2] at h; cases h
   ·
    rw [if_neg h2]
    have h3 : 0 < ext isWord (c :: r) := by rw [ext, if_pos (isWord_let h1)]; omega
    have h4 := ext_le isWord (c :: r)
    show 0 < (List.take _ _).length ∧ (List.take _ _).length ≤ _
    rw [List.length_take]; omega
  ·
   rw [if_neg h1] at h ⊢
   by_cases h2 : isDig c.toNat = true
   ·
    rw [if_pos h2] at h ⊢
    have h3 : 0 < ext isAlnum (c :: r) := by rw [ext, if_pos (by rw [isAlnum, h2, Bool.or_true])]; omega
    have h4 := ext_le isAlnum (c :: r)
    rcases hv : pu32 ((c :: r).take (ext isAlnum (c :: r))) with _ | v
    ·
     rw [hv] at h
     simp only at h
     exfalso
     unfold numErr at h
     split at h
     · cases h
     · split at h <;> cases h
    ·
     simp only
     rw [List.length_take]; omega
   ·
    rw [if_neg h2] at h ⊢
    by_cases h5 : sym (c :: r) = 0
    · rw [if_pos h5] at h; cases h
    ·
     rw [if_neg h5]
     have h4 := sym_le (c :: r)
     show 0 < (List.take _ _).length ∧ (List.take _ _).length ≤ _
     rw [List.length_take]; omega
theorem tokM_fuel : ∀ (n m : Nat) (l : List UInt8) (at_ : Nat) (out : List Tk), l.length ≤ n → l.length ≤ m → tokM n l at_ out = tokM m l at_ out
 | 0, 0, _, _, _, _, _ => rfl
 | 0, m + 1, [], _, _, _, _ => rfl
 | n + 1, 0, [], _, _, _, _ => rfl
 | 0, m + 1, c :: r, _, _, h, _ => by simp at h
 | n + 1, 0, c :: r, _, _, _, h => by simp at h
 | n + 1, m + 1, [], _, _, _, _ => rfl
 | n + 1, m + 1, c :: r, at_, out, hn, hm => by
  have hn' : r.length ≤ n := by simpa using hn
  have hm' : r.length ≤ m := by simpa using hm
  simp only [tokM]
  split
  · exact tokM_fuel n m r _ _ hn' hm'
  ·
   split
   · exact tokM_fuel n m r _ _ hn' hm'
   ·
    split
    ·
     rename_i h1 _ h3
     have hx : 0 < ext notNl (c :: r) := by rw [ext, if_pos (by subst h3; decide)]; omega
     refine tokM_fuel n m _ _ _ ?_ ?_ <;> (rw [List.length_drop]; simp only [List.length_cons]; omega)
    ·
     split
     · rfl
     ·
      split
      ·
       rename_i h0
       have hx := (nextM_len (c :: r) h0).1
       refine tokM_fuel n m _ _ _ ?_ ?_ <;> (rw [List.length_drop]; simp only [List.length_cons]; omega)
      · rfl
def tkCells (l : List Tk) : List Value := l.flatMap fun t => t.cells.toList
theorem tkCells_snoc (l : List Tk) (t : Tk) : tkCells (l ++ [t]) = tkCells l ++ t.cells.toList := by simp [tkCells]
structure TkOk (t : Tk) : Prop where
 kind : t.kind = 1 ∨ t.kind = 2 ∨ t.kind = 3
 value : t.value ≤ 4294967295
theorem pu32_le {l : List UInt8} {v : Nat} (h : pu32 l = some v) : v ≤ 4294967295 := by
 unfold pu32 at h
 split at h
 ·
  split at h
  · cases h
  · exact horner_le 16 _ 0 v (by omega) h
 ·
  split at h
  · exact horner_le 10 _ 0 v (by omega) h
  · cases h
theorem nextM_ok (l : List UInt8) (h : (nextM l).2 = 0) : TkOk (nextM l).1 := by
 match l, h with
 | [], h => cases h
 | c :: r, h =>
  simp only [nextM] at h ⊢
  by_cases h1 : isLet c.toNat = true
  ·
   rw [if_pos h1] at h ⊢
   by_cases h2 : 16 < ext isWord (c :: r)
   · rw [if_pos h2] at h; cases h
   · rw [if_neg h2]; exact ⟨.inl rfl, Nat.zero_le _⟩
  ·
   rw [if_neg h1] at h ⊢
   by_cases h2 : isDig c.toNat = true
   ·
    rw [if_pos h2] at h ⊢
    rcases hv : pu32 ((c :: r).take (ext isAlnum (c :: r))) with _ | v
    ·
     rw [hv] at h
     simp only at h
     exfalso
     unfold numErr at h
     split at h
     · cases h
     · split at h <;> cases h
    · exact ⟨.inr (.inl rfl), pu32_le hv⟩
   ·
    rw [if_neg h2] at h ⊢
    by_cases h5 : sym (c :: r) = 0
    · rw [if_pos h5] at h; cases h
    · rw [if_neg h5]; exact ⟨.inr (.inr rfl), Nat.zero_le _⟩
theorem tokM_ok : ∀ (n : Nat) (l : List UInt8) (at_ : Nat) (out : List Tk), (∀ t ∈ out, TkOk t) → out.length ≤ 4096 → (∀ t ∈ (tokM n l at_ out).1, TkOk t) ∧ (tokM n l at_ out).1.length ≤ 4096
 | 0, _, _, out, h, hl => ⟨h, hl⟩
 | n + 1, [], _, out, h, hl => ⟨h, hl⟩
 | n + 1, c :: r, at_, out, h, hl => by
  rw [tokM]
  split
  · exact tokM_ok n r (at_ + 1) out h hl
  ·
   split
   · exact tokM_ok n r at_ out h hl
   ·
    split
    · exact tokM_ok n _ at_ out h hl
    ·
     split
     · exact ⟨fun t h => by simp at h, Nat.zero_le _⟩
     ·
      split
      ·
       rename_i h4 h5
       refine tokM_ok n _ at_ _ (fun t ht => ?_) (by simp; omega)
       rcases List.mem_append.1 ht with ht | ht
       · exact h t ht
       ·
        simp only [List.mem_singleton] at ht
        subst ht
        have := nextM_ok _ h5
        exact ⟨this.kind, this.value⟩
      · exact ⟨fun t h => by simp at h, Nat.zero_le _⟩
theorem tokenize_ok (l : List UInt8) : (∀ t ∈ (tokenize l).1, TkOk t) ∧ (tokenize l).1.length ≤ 4096 := by
 unfold tokenize
 split
 · exact ⟨fun t h => by simp at h, Nat.zero_le _⟩
 · exact tokM_ok l.length l 1 [] (fun t h => by simp at h) (Nat.zero_le _)
def tkL (t : Tk) : List Value := [.int .i64 t.kind, .string ⟨t.text.toArray⟩, .int .u32 t.value, .int .i64 t.line]
theorem tk_cells_at (l : List Tk) (i : Nat) (h : i < l.length) (j : Nat) (hj : j < 4) : (tkCells l)[i * 4 + j]? = (tkL (l[i]'h))[j]? := by
 induction l generalizing i with
 | nil => simp at h
 | cons t l ih =>
  have e : tkCells (t :: l) = t.cells.toList ++ tkCells l := rfl
  have hl : t.cells.toList.length = 4 := rfl
  cases i with
  | zero => rw [e, List.getElem?_append_left (by omega), Nat.zero_mul, Nat.zero_add]; rfl
  | succ i =>
   rw [e, List.getElem?_append_right (by omega), hl, show (i + 1) * 4 + j - 4 = i * 4 + j from by omega, ih i (by simpa using h)]
   rfl
theorem own_tk {w : World} {base : Nat} {A : Option Addr} {c : Nat} {l : List Tk} {ty : TypeId} (h : w.ownsRow base ty 4 (.slice A l.length c) l.length (tkCells l)) (hm : l.length ≤ maxLen) : LOk w 4 tkL ⟨l, A, c⟩ := by
 refine ⟨hm, ?_⟩
 by_cases h0 : l = []
 · exact .inl h0
 ·
  have hpos : 0 < l.length := List.length_pos_iff.2 h0
  have h' := h
  rcases h'.2 with ⟨e, _⟩ | ⟨g, cap, cur, hv, _, hblk, hle, _, _, _⟩
  · exact absurd e (by intro e; injection e with _ e _; omega)
  ·
   have hA : A = some ⟨g, 0, none⟩ := by injection hv
   have hc : c = cap := by injection hv
   subst hA hc
   refine .inr ⟨g, 0, rfl, Blk.lt hblk, fun i hi j hj => ?_⟩
   simp only at hi
   have := h.cellAt (i * 4 + j) (by omega)
   rw [tk_cells_at l i hi j hj] at this
   rw [Nat.zero_add]
   exact this
theorem TkD.atA {w : World} {x : L Tk} (h : LOk w 4 tkL x) {i : Nat} (hi : i < x.l.length) :
  ∃ g o, x.A = some ⟨g, o, none⟩ ∧ ∀ w', Below w.heap.size w w' → w'.cell? ⟨g, o + i * 4, none⟩ = some (.int .i64 x.l[i].kind) ∧ w'.cell? ⟨g, o + i * 4 + 1, none⟩ = some (.string ⟨x.l[i].text.toArray⟩) ∧
   w'.cell? ⟨g, o + i * 4 + 2, none⟩ = some (.int .u32 x.l[i].value) ∧ w'.cell? ⟨g, o + i * 4 + 3, none⟩ = some (.int .i64 x.l[i].line) := by
 obtain ⟨g, o, e, _, hc⟩ := h.at hi
 exact ⟨g, o, e, fun w' hb => ⟨below_cell hb (hc 0 (by omega)), below_cell hb (hc 1 (by omega)), below_cell hb (hc 2 (by omega)), below_cell hb (hc 3 (by omega))⟩⟩
structure KmD where
 v : Int
 m : Int
 deriving DecidableEq
def KmD.cells (k : KmD) : List Value := [.int .u32 k.v, .int .u32 k.m]
def wIns : List UInt8 := [105, 110, 115, 101, 114, 116]
def wMod : List UInt8 := [109, 111, 100, 105, 102, 121]
def wDel : List UInt8 := [100, 101, 108, 101, 116, 101]
def wDef : List UInt8 := [100, 101, 102, 97, 117, 108, 116]
def wPrio : List UInt8 := [112, 114, 105, 111, 114, 105, 116, 121]
def wArrow : List UInt8 := [45, 62]
inductive PS where
 | ok (i : Nat)
 | bad (e : Nat)
 deriving DecidableEq
def nxt (ts : List Tk) (i : Nat) : Tk := ts.getD i Tk.zero
def takeA (ts : List Tk) (k : Nat) (txt : List UInt8) : PS → Tk × PS
 | .bad e => (Tk.zero, .bad e)
 | .ok i => if (nxt ts i).kind ≠ k ∨ (txt ≠ [] ∧ (nxt ts i).text ≠ txt) then (Tk.zero, .bad 5) else (nxt ts i, .ok (i + 1))
def stepA (ts : List Tk) (k : Nat) (txt : List UInt8) (s : PS) : PS := (takeA ts k txt s).2
def numA (ts : List Tk) (s : PS) : Nat × PS := ((takeA ts 2 [] s).1.value, (takeA ts 2 [] s).2)
def argsA (ts : List Tk) : Nat → Bool → List Int → PS → List Int × PS
 | 0, _, acc, s => (acc, s)
 | _ + 1, _, acc, .bad e => (acc, .bad e)
 | n + 1, first, acc, .ok i =>
  if (nxt ts i).text = [41] then (acc, .ok i)
  else
   let v := numA ts (if first then .ok i else stepA ts 3 [44] (.ok i))
   argsA ts n false (acc ++ [(v.1 : Int)]) v.2
def keysA (ts : List Tk) : Nat → List KmD → PS → List KmD × PS
 | 0, acc, s => (acc, s)
 | _ + 1, acc, .bad e => (acc, .bad e)
 | n + 1, acc, .ok i =>
  if (nxt ts i).kind = 2 then
   let v := numA ts (.ok i)
   let m := numA ts (stepA ts 3 [47] v.2)
   keysA ts n (acc ++ [⟨v.1, m.1⟩]) m.2
  else (acc, .ok i)
def kindW (l : List UInt8) : Nat := if l = wIns then 1 else if l = wMod then 2 else if l = wDel then 3 else if l = wDef then 4 else 0
theorem checkFlow_any (p : ProgD) (w : World) (o : ProgOk w p) (hc : ProgCap p) (hN : (presM p.control.l).length ≤ 90000) :
  Calls Tryz.prog 43 #[.agg (progCells p)] w fun e w' => e = outE (flowM p) ∧ Below w.heap.size w w' := by
 have HO := hi_ o
 have HC := hi_ hc
 have HN := hi_ hN
 have HR := hi_ (flowM.eq_1 p)
 obtain ⟨W, hW, hw, HB, hp⟩ := box1 w (progCells p) 31
 have HW := hi_ hw
 clear o hc hN hw
 go_enter Tryz.func43, Tryz.ntmps43
 go_upto_region 1 with fail
 rw [← hW]
 clear hW
 go_wp2_with fail
 refine (parserCheck_any p _ (HO.out.below (below_step HW.out (by first | exact HB | exact ba1 HB | exact ba2 HB | exact ba3 HB))) HC.out.cases).mono ?_
 rintro e w1 ⟨rfl, hbN⟩
 replace HB := below_step (by first | exact HB | exact ba1 HB | exact ba2 HB | exact ba3 HB) hbN
 clear hbN
 generalize parserM p = r at *
 obtain ⟨ri, rs, rc⟩ := r
 simp only at HR
 by_cases k1 : rc = 0
 case neg =>
  replace HR := tr_ HR (if_pos k1)
  go_wp2_with fail
  refine (require_bad rc 6 ri rs _ (bf_ k1)).mono ?_
  rintro e w' ⟨rfl, rfl⟩
  go_wp2
  exact ⟨rfl, by rw [HR.out]; rfl, below_step HW.out HB⟩
 subst k1
 replace HR := tr_ HR (if_neg (by simp))
 go_wp2_with fail
 refine (require_ok _ _ _ _).mono ?_
 rintro e w' ⟨rfl, rfl⟩
 go_wp2_with fail
 refine (controlCheck_any p _ (HO.out.below (below_step HW.out (by first | exact HB | exact ba1 HB | exact ba2 HB | exact ba3 HB))) HN.out).mono ?_
 rintro e w2 ⟨rfl, hbN⟩
 replace HB := below_step (by first | exact HB | exact ba1 HB | exact ba2 HB | exact ba3 HB) hbN
 clear hbN
 generalize ctlM p = r at *
 obtain ⟨ri, rc⟩ := r
 simp only at HR
 by_cases k1 : rc = 0
 case neg =>
  replace HR := tr_ HR (if_pos k1)
  go_wp2_with fail
  refine (require_bad rc 7 ri 0 _ (bf_ k1)).mono ?_
  rintro e w' ⟨rfl, rfl⟩
  go_wp2
  exact ⟨rfl, by rw [HR.out]; rfl, below_step HW.out HB⟩
 subst k1
 replace HR := tr_ HR (if_neg (by simp))
 go_wp2_with fail
 refine (require_ok _ _ _ _).mono ?_
 rintro e w' ⟨rfl, rfl⟩
 go_wp2_with fail
 refine (deparserCheck_any p _ (HO.out.below (below_step HW.out (by first | exact HB | exact ba1 HB | exact ba2 HB | exact ba3 HB))) HC.out.dep).mono ?_
 rintro e w3 ⟨rfl, hbN⟩
 replace HB := below_step (by first | exact HB | exact ba1 HB | exact ba2 HB | exact ba3 HB) hbN
 clear hbN
 generalize depM p = r at *
 obtain ⟨ri, rc⟩ := r
 simp only at HR
 by_cases k1 : rc = 0
 case neg =>
  replace HR := tr_ HR (if_pos k1)
  go_wp2_with fail
  refine (require_bad rc 8 ri 0 _ (bf_ k1)).mono ?_
  rintro e w' ⟨rfl, rfl⟩
  go_wp2
  exact ⟨rfl, by rw [HR.out]; rfl, below_step HW.out HB⟩
 subst k1
 replace HR := tr_ HR (if_neg (by simp))
 go_wp2_with fail
 refine (require_ok _ _ _ _).mono ?_
 rintro e w' ⟨rfl, rfl⟩
 go_wp2
 go_end0
 exact ⟨by rw [HR.out]; rfl, below_step HW.out HB⟩
theorem mixed : Tryz.prog.follows .mixedOrders = true := by kernel_rfl
theorem when_flip (b : Bool) (c : Int) (w : World) : Calls Tryz.prog 81 #[.bool b, .int .i64 c] w fun e w' => e = .returned (.int .i64 (if b = true then c else 0)) ∧ w' = w := (when_any b c w).mono fun _ _ h => ⟨h.1, h.2.symm⟩
def mAt (l : List FieldD) (i : Nat) : Option DiagD := (fldM l i).map fun e => (⟨e, 2, i, 0⟩ : DiagD)
def wAt (l : List FieldD) (i : Nat) : Option DiagD := if isWant l i = false then some ⟨5, 2, i, 0⟩ else none
theorem metaM_eq (p : ProgD) : metaM p = if 12 < p.metadata.l.length then some ⟨12, 2, 0, 0⟩
 else match firstE p.metadata.l.length (mAt p.metadata.l) with
  | some d => some d
  | none => firstE 3 (wAt p.metadata.l) := rfl
theorem mAt_some {l : List FieldD} {i : Nat} {e : Int} (h : fldM l i = some e) : mAt l i = some ⟨e, 2, i, 0⟩ := by rw [mAt, h]; rfl
theorem mAt_none {l : List FieldD} {i : Nat} (h : fldM l i = none) : mAt l i = none := by rw [mAt, h]; rfl
theorem wAt_none {l : List FieldD} {i : Nat} (h : isWant l i = true) : wAt l i = none := by rw [wAt, h]; rfl
theorem wAt_some {l : List FieldD} {i : Nat} (h : isWant l i = false) : wAt l i = some ⟨5, 2, i, 0⟩ := by rw [wAt, h]; rfl
theorem want_out {l : List FieldD} {i : Nat} (h : l.length ≤ i) : isWant l i = false := by rw [isWant, List.getElem?_eq_none h]
theorem lit_in : (⟨#[105, 110]⟩ : ByteArray).toList = [105, 110] := by rw [toList_data]
theorem nm_in_yes {s : ByteArray} (h : s = (⟨#[105, 110]⟩ : ByteArray)) : (s.toList == [105, 110]) = true := by rw [h, lit_in]; rfl
theorem nm_in_no {s : ByteArray} (h : ¬ s = (⟨#[105, 110]⟩ : ByteArray)) : (s.toList == [105, 110]) = false := bf_ fun e => h (toList_inj.1 (e.trans lit_in.symm))
theorem want_in (l : List FieldD) (h : 0 < l.length) : isWant l 0 = (decide (l[0].name = (⟨#[105, 110]⟩ : ByteArray)) && decide (l[0].width = 8)) := by
 rw [isWant, List.getElem?_eq_getElem h]
 rfl
theorem lit_out : (⟨#[111, 117, 116]⟩ : ByteArray).toList = [111, 117, 116] := by rw [toList_data]
theorem nm_out_yes {s : ByteArray} (h : s = (⟨#[111, 117, 116]⟩ : ByteArray)) : (s.toList == [111, 117, 116]) = true := by rw [h, lit_out]; rfl
theorem nm_out_no {s : ByteArray} (h : ¬ s = (⟨#[111, 117, 116]⟩ : ByteArray)) : (s.toList == [111, 117, 116]) = false := bf_ fun e => h (toList_inj.1 (e.trans lit_out.symm))
theorem want_out_ (l : List FieldD) (h : 1 < l.length) : isWant l 1 = (decide (l[1].name = (⟨#[111, 117, 116]⟩ : ByteArray)) && decide (l[1].width = 8)) := by
 rw [isWant, List.getElem?_eq_getElem h]
 rfl
theorem lit_drop : (⟨#[100, 114, 111, 112]⟩ : ByteArray).toList = [100, 114, 111, 112] := by rw [toList_data]
theorem nm_drop_yes {s : ByteArray} (h : s = (⟨#[100, 114, 111, 112]⟩ : ByteArray)) : (s.toList == [100, 114, 111, 112]) = true := by rw [h, lit_drop]; rfl
theorem nm_drop_no {s : ByteArray} (h : ¬ s = (⟨#[100, 114, 111, 112]⟩ : ByteArray)) : (s.toList == [100, 114, 111, 112]) = false := bf_ fun e => h (toList_inj.1 (e.trans lit_drop.symm))
theorem want_drop (l : List FieldD) (h : 2 < l.length) : isWant l 2 = (decide (l[2].name = (⟨#[100, 114, 111, 112]⟩ : ByteArray)) && decide (l[2].width = 1)) := by
 rw [isWant, List.getElem?_eq_getElem h]
 rfl
theorem checkMetadata_any (p : ProgD) (w : World) (o : ProgOk w p) :
  Calls Tryz.prog 41 #[.agg (progCells p)] w fun e w' => e = outE (metaM p) ∧ Below w.heap.size w w' := by
 obtain ⟨W, hW, hw, HB, hp⟩ := box1 w (progCells p) 31
 have HW := hi_ hw
 have HOW := hi_ (o.below hw)
 have HR := hi_ (metaM_eq p)
 have HS := hi_ (fldM_at p.metadata.l)
 have HN : Hid (∀ f ∈ p.metadata.l, f.name.size ≤ maxLen) := hi_ HOW.out.mnames
 have HX := hi_ HOW.out.metadata
 have HNm := hi_ (fun w' (h : Below W.heap.size W w') (hl : p.metadata.l.length ≤ 100) => names_field p.metadata w' (HOW.out.metadata.below h (Nat.le_refl _)) hl)
 have HW0 := hi_ (want_in p.metadata.l)
 have HW1 := hi_ (want_out_ p.metadata.l)
 have HW2 := hi_ (want_drop p.metadata.l)
 clear o hw
 obtain ⟨⟨ml, mA, mc⟩, hmd⟩ : ∃ x, p.metadata = x := ⟨_, rfl⟩
 simp only [progCells, hmd] at hp hW ⊢
 rw [hmd] at HR HS HN HX HNm HW0 HW1 HW2
 simp only at HR HS HN HNm HW0 HW1 HW2
 clear hmd HOW
 have HB0 := hi_ HB
 go_enter Tryz.func41, Tryz.ntmps41
 go_upto_region 1 with fail
 rw [← hW]
 clear hW
 by_cases h12 : 12 < ml.length
 ·
  replace HR := tr_ HR (if_pos h12)
  go_wp2_with fail
  refine (when_true _ _ _ (by first | rfl | (simp; omega))).mono ?_
  rintro e w' ⟨rfl, rfl⟩
  go_wp2_with fail
  refine (require_bad 12 2 0 0 _ rfl).mono ?_
  rintro e w' ⟨rfl, rfl⟩
  go_wp2
  exact ⟨rfl, by rw [HR.out]; rfl, below_step HW.out HB⟩
 replace HR := tr_ HR (if_neg h12)
 have hle : ml.length ≤ 12 := by omega
 clear h12
 go_wp2_with fail
 refine (when_false _ _ _ (by first | rfl | (simp; omega))).mono ?_
 rintro e w' ⟨rfl, rfl⟩
 go_wp2_with fail
 refine (require_ok _ _ _ _).mono ?_
 rintro e w' ⟨rfl, rfl⟩
 go_wp2_with fail
 refine (HNm.out _ HB (by omega)).mono ?_
 rintro e w1 ⟨A, c, rfl, hown, hb1⟩
 have HOwn := hi_ hown
 replace HB := below_step HB hb1
 have HB1 := hi_ HB
 clear hb1 hown HNm
 go_wp2
 clear HB
 go_loopw [3, 4, 19] (fun _ _ iv wr => ∃ k : Nat, k ≤ ml.length ∧ iv = .int .i64 k ∧ (∀ j, j < k → mAt ml j = none) ∧ Below w1.heap.size w1 wr) (fun _ _ i _ => ml.length - (intOf i).toNat)
 case atStart => exact ⟨0, Nat.zero_le _, rfl, fun j h => absurd h (Nat.not_lt_zero _), Below.refl _ _⟩
 case round =>
  obtain ⟨k, hk, rfl, hpre, HB⟩ := hrel
  have HPre := hi_ hpre
  clear hpre
  by_cases hlt : k < ml.length
  ·
   obtain ⟨g, of, hA, d0, d1⟩ := FieldD.at (HX.out.below (below_step HB1.out HB) (Nat.le_refl _)) hlt
   have HE := hi_ (HS.out k hlt)
   have HNk := hi_ (HN.out _ (List.getElem_mem hlt))
   simp only at hA d0 d1
   subst hA
   clear HW0 HW1 HW2
   generalize ml[k] = y at *
   obtain ⟨yn, yw⟩ := y
   simp only at HE HNk d0 d1
   obtain ⟨gn, rfl, hg⟩ := OwnStrs.form HOwn.out (show 0 < (ml.map FieldD.name).length by rw [List.length_map]; omega)
   have HG := hi_ hg
   clear hg
   have hca := @World.cell?_alloc_some
   go_wp2_with fail
   refine (identifier_any yn _ HNk.out).mono ?_
   rintro e w' ⟨rfl, rfl⟩
   cases h1 : ident yn
   ·
    have HE2 := hi_ (mAt_some (HE.out.trans (if_pos h1)))
    have HR2 := hi_ (HR.out.trans (show _ = some (⟨6, 2, k, 0⟩ : DiagD) by rw [firstE_some hlt HPre.out HE2.out]))
    go_wp2_with fail
    refine (when_true _ _ _ rfl).mono ?_
    rintro e w' ⟨rfl, rfl⟩
    go_wp2_with fail
    refine (require_bad 6 2 k 0 _ rfl).mono ?_
    rintro e w' ⟨rfl, rfl⟩
    go_wp2
    exact ⟨rfl, by rw [HR2.out]; rfl, below_step HW.out (below_step HB1.out (by first | exact HB | exact ba1 HB | exact ba2 HB | exact ba3 HB))⟩
   have HF1 := tr_ HE (if_neg (by rw [h1]; simp))
   clear h1 HE
   go_wp2_with fail
   refine (when_false _ _ _ rfl).mono ?_
   rintro e w' ⟨rfl, rfl⟩
   go_wp2_with fail
   refine (require_ok _ _ _ _).mono ?_
   rintro e w' ⟨rfl, rfl⟩
   go_wp2_with fail
   refine (widthInvalid_any _ _).mono ?_
   rintro e w' ⟨rfl, rfl⟩
   cases h2 : okW yw
   ·
    have HE2 := hi_ (mAt_some (HF1.out.trans (if_pos h2)))
    have HR2 := hi_ (HR.out.trans (show _ = some (⟨10, 2, k, 0⟩ : DiagD) by rw [firstE_some hlt HPre.out HE2.out]))
    have h3 := okW_not.1 h2
    go_wp2_with fail
    refine (when_true _ _ _ (by simp; omega)).mono ?_
    rintro e w' ⟨rfl, rfl⟩
    go_wp2_with fail
    refine (require_bad 10 2 k 0 _ rfl).mono ?_
    rintro e w' ⟨rfl, rfl⟩
    go_wp2
    exact ⟨rfl, by rw [HR2.out]; rfl, below_step HW.out (below_step HB1.out (by first | exact HB | exact ba1 HB | exact ba2 HB | exact ba3 HB))⟩
   have HF2 := tr_ HF1 (if_neg (by rw [h2]; simp))
   have h3 := okW_iff.1 h2
   clear HF1
   go_wp2_with fail
   refine (when_false _ _ _ (by simp; omega)).mono ?_
   rintro e w' ⟨rfl, rfl⟩
   go_wp2_with fail
   refine (require_ok _ _ _ _).mono ?_
   rintro e w' ⟨rfl, rfl⟩
   clear d0 d1 hca
   go_wp2_with fail
   refine (rep_at (ml.map FieldD.name) ml.length gn c k w1 _ (by simp) hlt (by omega) HG.out (by first | exact HB | exact ba1 HB | exact ba2 HB | exact ba3 HB)).mono ?_
   rintro e w3 ⟨rfl, hbN⟩
   replace HB := below_step (by first | exact HB | exact ba1 HB | exact ba2 HB | exact ba3 HB) hbN
   clear hbN
   cases hd : dupB (ml.map FieldD.name) k
   case true =>
    have HE2 := hi_ (mAt_some (HF2.out.trans (if_pos hd)))
    have HR2 := hi_ (HR.out.trans (show _ = some (⟨7, 2, k, 0⟩ : DiagD) by rw [firstE_some hlt HPre.out HE2.out]))
    go_wp2_with fail
    refine (when_true _ _ _ rfl).mono ?_
    rintro e w' ⟨rfl, rfl⟩
    go_wp2_with fail
    refine (require_bad 7 2 k 0 _ rfl).mono ?_
    rintro e w' ⟨rfl, rfl⟩
    go_wp2
    exact ⟨rfl, by rw [HR2.out]; rfl, below_step HW.out (below_step HB1.out HB)⟩
   have HE4 := hi_ (mAt_none (HF2.out.trans (if_neg (by rw [hd]; simp))))
   go_wp2_with fail
   refine (when_false _ _ _ rfl).mono ?_
   rintro e w' ⟨rfl, rfl⟩
   go_wp2_with fail
   refine (require_ok _ _ _ _).mono ?_
   rintro e w' ⟨rfl, rfl⟩
   go_wp2
   go_roundw
   case rel => exact ⟨k + 1, by omega, by go_num, firstE_step HPre.out HE4.out, HB⟩
   case measure => simp [intOf]; omega
  have e : k = ml.length := by omega
  have HR2 := hi_ (HR.out.trans (show _ = firstE 3 (wAt ml) by rw [firstE_none (by rw [← e]; exact HPre.out)]))
  have hkx : ¬ ((k : Int) < (ml.length : Int)) := by omega
  have HBb := hi_ (below_step HB1.out HB)
  clear HPre HB1 HOwn hlt e HB HR HS HN
  go_wp2
  go_loopw [5, 6, 47] (fun _ _ iv wr => ∃ k : Nat, k ≤ 3 ∧ iv = .int .i64 k ∧ (∀ j, j < k → wAt ml j = none) ∧ Below W.heap.size W wr) (fun _ _ i _ => 3 - (intOf i).toNat)
  case atStart => exact ⟨0, Nat.zero_le _, rfl, fun j h => absurd h (Nat.not_lt_zero _), HBb.out⟩
  case round =>
   clear hk hkx HBb
   obtain ⟨k, hk, rfl, hpre, HB⟩ := hrel
   have HPre := hi_ hpre
   clear hpre
   rcases (show k = 0 ∨ k = 1 ∨ k = 2 ∨ k = 3 by omega) with rfl | rfl | rfl | rfl
   case inr.inr.inr =>
    have HR3 := hi_ (HR2.out.trans (firstE_none HPre.out))
    go_wp2
    go_end0
    exact ⟨by rw [HR3.out]; rfl, below_step HW.out HB⟩
   case inl =>
    have hix := i95_0
    refine Exists.elim (box1 wr #[.string ⟨#[105, 110]⟩, .int .i64 8] 104) ?_
    rintro V ⟨hV, hv, hVV, hbx⟩
    have HBV := hi_ (below_step HB hv)
    have hp1 := hp V.drew (below_step HB hv).drew
    have b0 : V.drew.cell? ⟨wr.heap.size, 0, none⟩ = some (.string ⟨#[105, 110]⟩) := hbx V.drew hVV.drew 0 (show 0 < 2 by decide)
    have b1 : V.drew.cell? ⟨wr.heap.size, 1, none⟩ = some (.int .i64 8) := hbx V.drew hVV.drew 1 (show 1 < 2 by decide)
    by_cases hlt : 0 < ml.length
    case neg =>
     have HE2 := hi_ (wAt_some (want_out (l := ml) (i := 0) (by omega)))
     have HR3 := hi_ (HR2.out.trans (firstE_some (show 0 < 3 by decide) HPre.out HE2.out))
     have E1 : Hid ((ml.length : Int) ≤ 0) := hi_ (by omega)
     have E2 : Hid (ml.length ≤ 0) := hi_ (by omega)
     have E0 : Hid (ml = []) := hi_ (List.eq_nil_of_length_eq_zero (by omega))
     clear hlt
     clear hv hVV hbx HB
     go_wp2
     rw [← hV]
     clear hV hix
     refine wp_region_still_tail 16 mixed (by kernel_rfl) ?_
     simp only [List.take_succ_cons, List.take_zero, List.drop_succ_cons, List.drop_zero]
     change wpStill _ _ V.drew _ _ _
     iterate 6 still_step
     iterate 7 (refine wpStill_step (fun K hK => ?_); go_simp; (first | rw [if_pos E0.out] | rw [if_neg (show ¬ (0 : Int) < (ml.length : Int) by have := E2.out; omega)]); refine hK _ ?_; clear hK K)
     have e0 := E0.out
     have e1 := E1.out
     have e2 := E2.out
     still_step
     clear e0 e1 e2
     still_call (when_flip _ _ _)
     still_step
     refine wpStill_nil ?_
     change wpList _ _ _ _ _ V.drew
     go_wp2_with fail
     refine (require_bad 5 2 0 0 _ rfl).mono ?_
     rintro e w' ⟨rfl, rfl⟩
     go_wp2
     exact ⟨rfl, by rw [HR3.out]; rfl, below_step HW.out HBV.out.drew⟩
    obtain ⟨g, of, hA, d0, d1⟩ := FieldD.at (HX.out.below HBV.out.drew (Nat.le_refl _)) hlt
    have HE := hi_ (HW0.out hlt)
    have N2 : Hid (0 < ml.length) := hi_ hlt
    have N3 : Hid ((0 : Int) < (ml.length : Int)) := hi_ (by omega)
    have N0 : Hid (¬ ml = []) := hi_ (fun e => by rw [e] at hlt; exact absurd hlt (Nat.lt_irrefl _))
    simp only at hA
    simp only [Nat.zero_mul, Nat.add_zero] at d0 d1
    subst hA
    generalize ml[0]'hlt = y at *
    obtain ⟨yn, yw⟩ := y
    simp only at HE d0 d1
    clear HW0 HW1 HW2 hv hVV hbx HB hlt
    go_wp2
    rw [← hV]
    clear hV hix
    by_cases he : yn = (⟨#[105, 110]⟩ : ByteArray)
    ·
     by_cases he2 : yw = 8
     ·
      have HE2 := hi_ (wAt_none (HE.out.trans (by rw [decide_eq_true he, decide_eq_true he2]; rfl)))
      have he' := nm_in_yes he
      have he2' : (yw == 8) = true := beq_iff_eq.2 he2
      clear he he2
      refine wp_region_still_tail 16 mixed (by kernel_rfl) ?_
      simp only [List.take_succ_cons, List.take_zero, List.drop_succ_cons, List.drop_zero]
      change wpStill _ _ V.drew _ _ _
      iterate 6 still_step
      iterate 3 (refine wpStill_step (fun K hK => ?_); go_simp; (first | rw [if_neg N0.out] | rw [if_pos (show (0 : Int) < (ml.length : Int) by have := N2.out; omega)]); refine hK _ ?_; clear hK K)
      iterate 1 (refine wpStill_step (fun K hK => ?_); go_simp; (first | rw [if_neg N0.out] | rw [if_pos (show (0 : Int) < (ml.length : Int) by have := N2.out; omega)]); (first | rw [if_pos N2.out] | rw [if_pos N3.out]); go_simp; refine hK _ ?_; clear hK K)
      iterate 3 (refine wpStill_step (fun K hK => ?_); go_simp; (first | rw [if_neg N0.out] | rw [if_pos (show (0 : Int) < (ml.length : Int) by have := N2.out; omega)]); refine hK _ ?_; clear hK K)
      have n0 := N0.out
      have n2 := N2.out
      have n3 := N3.out
      have n4 : decide ((ml.length : Int) ≤ 0) = false := decide_eq_false (by have := N2.out; omega)
      still_step
      clear n0 n2 n3 n4
      still_call (when_flip _ _ _)
      still_step
      refine wpStill_nil ?_
      change wpList _ _ _ _ _ V.drew
      go_wp2_with fail
      refine (require_ok _ _ _ _).mono ?_
      rintro e w' ⟨rfl, rfl⟩
      go_wp2
      go_roundw
      case rel => exact ⟨1, by omega, by go_num, firstE_step HPre.out HE2.out, HBV.out.drew⟩
      case measure => simp [intOf]
     ·
      have HE2 := hi_ (wAt_some (HE.out.trans (by rw [decide_eq_false he2]; simp)))
      have HR3 := hi_ (HR2.out.trans (firstE_some (show 0 < 3 by decide) HPre.out HE2.out))
      have he' := nm_in_yes he
      have he2' : (yw == 8) = false := bf_ he2
      clear he he2
      refine wp_region_still_tail 16 mixed (by kernel_rfl) ?_
      simp only [List.take_succ_cons, List.take_zero, List.drop_succ_cons, List.drop_zero]
      change wpStill _ _ V.drew _ _ _
      iterate 6 still_step
      iterate 3 (refine wpStill_step (fun K hK => ?_); go_simp; (first | rw [if_neg N0.out] | rw [if_pos (show (0 : Int) < (ml.length : Int) by have := N2.out; omega)]); refine hK _ ?_; clear hK K)
      iterate 1 (refine wpStill_step (fun K hK => ?_); go_simp; (first | rw [if_neg N0.out] | rw [if_pos (show (0 : Int) < (ml.length : Int) by have := N2.out; omega)]); (first | rw [if_pos N2.out] | rw [if_pos N3.out]); go_simp; refine hK _ ?_; clear hK K)
      iterate 3 (refine wpStill_step (fun K hK => ?_); go_simp; (first | rw [if_neg N0.out] | rw [if_pos (show (0 : Int) < (ml.length : Int) by have := N2.out; omega)]); refine hK _ ?_; clear hK K)
      have n0 := N0.out
      have n2 := N2.out
      have n3 := N3.out
      have n4 : decide ((ml.length : Int) ≤ 0) = false := decide_eq_false (by have := N2.out; omega)
      still_step
      clear n0 n2 n3 n4
      still_call (when_flip _ _ _)
      still_step
      refine wpStill_nil ?_
      change wpList _ _ _ _ _ V.drew
      go_wp2_with fail
      refine (require_bad 5 2 0 0 _ rfl).mono ?_
      rintro e w' ⟨rfl, rfl⟩
      go_wp2
      exact ⟨rfl, by rw [HR3.out]; rfl, below_step HW.out HBV.out.drew⟩
    ·
     have HE2 := hi_ (wAt_some (HE.out.trans (by rw [decide_eq_false he]; simp)))
     have HR3 := hi_ (HR2.out.trans (firstE_some (show 0 < 3 by decide) HPre.out HE2.out))
     have he' := nm_in_no he
     clear he
     refine wp_region_still_tail 16 mixed (by kernel_rfl) ?_
     simp only [List.take_succ_cons, List.take_zero, List.drop_succ_cons, List.drop_zero]
     change wpStill _ _ V.drew _ _ _
     iterate 6 still_step
     iterate 3 (refine wpStill_step (fun K hK => ?_); go_simp; (first | rw [if_neg N0.out] | rw [if_pos (show (0 : Int) < (ml.length : Int) by have := N2.out; omega)]); refine hK _ ?_; clear hK K)
     iterate 1 (refine wpStill_step (fun K hK => ?_); go_simp; (first | rw [if_neg N0.out] | rw [if_pos (show (0 : Int) < (ml.length : Int) by have := N2.out; omega)]); (first | rw [if_pos N2.out] | rw [if_pos N3.out]); go_simp; refine hK _ ?_; clear hK K)
     iterate 3 (refine wpStill_step (fun K hK => ?_); go_simp; (first | rw [if_neg N0.out] | rw [if_pos (show (0 : Int) < (ml.length : Int) by have := N2.out; omega)]); refine hK _ ?_; clear hK K)
     have n0 := N0.out
     have n2 := N2.out
     have n3 := N3.out
     have n4 : decide ((ml.length : Int) ≤ 0) = false := decide_eq_false (by have := N2.out; omega)
     still_step
     clear n0 n2 n3 n4
     still_call (when_flip _ _ _)
     still_step
     refine wpStill_nil ?_
     change wpList _ _ _ _ _ V.drew
     go_wp2_with fail
     refine (require_bad 5 2 0 0 _ rfl).mono ?_
     rintro e w' ⟨rfl, rfl⟩
     go_wp2
     exact ⟨rfl, by rw [HR3.out]; rfl, below_step HW.out HBV.out.drew⟩
   case inr.inl =>
    have hix := i95_1
    refine Exists.elim (box1 wr #[.string ⟨#[111, 117, 116]⟩, .int .i64 8] 104) ?_
    rintro V ⟨hV, hv, hVV, hbx⟩
    have HBV := hi_ (below_step HB hv)
    have hp1 := hp V.drew (below_step HB hv).drew
    have b0 : V.drew.cell? ⟨wr.heap.size, 0, none⟩ = some (.string ⟨#[111, 117, 116]⟩) := hbx V.drew hVV.drew 0 (show 0 < 2 by decide)
    have b1 : V.drew.cell? ⟨wr.heap.size, 1, none⟩ = some (.int .i64 8) := hbx V.drew hVV.drew 1 (show 1 < 2 by decide)
    by_cases hlt : 1 < ml.length
    case neg =>
     have HE2 := hi_ (wAt_some (want_out (l := ml) (i := 1) (by omega)))
     have HR3 := hi_ (HR2.out.trans (firstE_some (show 1 < 3 by decide) HPre.out HE2.out))
     have E1 : Hid ((ml.length : Int) ≤ 1) := hi_ (by omega)
     have E2 : Hid (ml.length ≤ 1) := hi_ (by omega)
     have E0 : Hid (ml.length ≤ 1) := E2
     clear hlt
     clear hv hVV hbx HB
     go_wp2
     rw [← hV]
     clear hV hix
     refine wp_region_still_tail 16 mixed (by kernel_rfl) ?_
     simp only [List.take_succ_cons, List.take_zero, List.drop_succ_cons, List.drop_zero]
     change wpStill _ _ V.drew _ _ _
     iterate 6 still_step
     iterate 7 (refine wpStill_step (fun K hK => ?_); go_simp; (first | rw [if_pos E0.out] | rw [if_neg (show ¬ (1 : Int) < (ml.length : Int) by have := E2.out; omega)]); refine hK _ ?_; clear hK K)
     have e0 := E0.out
     have e1 := E1.out
     have e2 := E2.out
     still_step
     clear e0 e1 e2
     still_call (when_flip _ _ _)
     still_step
     refine wpStill_nil ?_
     change wpList _ _ _ _ _ V.drew
     go_wp2_with fail
     refine (require_bad 5 2 1 0 _ rfl).mono ?_
     rintro e w' ⟨rfl, rfl⟩
     go_wp2
     exact ⟨rfl, by rw [HR3.out]; rfl, below_step HW.out HBV.out.drew⟩
    obtain ⟨g, of, hA, d0, d1⟩ := FieldD.at (HX.out.below HBV.out.drew (Nat.le_refl _)) hlt
    have HE := hi_ (HW1.out hlt)
    have N2 : Hid (1 < ml.length) := hi_ hlt
    have N3 : Hid ((1 : Int) < (ml.length : Int)) := hi_ (by omega)
    have N0 : Hid (¬ ml.length ≤ 1) := hi_ (by omega)
    simp only at hA
    simp only [Nat.one_mul] at d0 d1
    subst hA
    generalize ml[1]'hlt = y at *
    obtain ⟨yn, yw⟩ := y
    simp only at HE d0 d1
    clear HW0 HW1 HW2 hv hVV hbx HB hlt
    go_wp2
    rw [← hV]
    clear hV hix
    by_cases he : yn = (⟨#[111, 117, 116]⟩ : ByteArray)
    ·
     by_cases he2 : yw = 8
     ·
      have HE2 := hi_ (wAt_none (HE.out.trans (by rw [decide_eq_true he, decide_eq_true he2]; rfl)))
      have he' := nm_out_yes he
      have he2' : (yw == 8) = true := beq_iff_eq.2 he2
      clear he he2
      refine wp_region_still_tail 16 mixed (by kernel_rfl) ?_
      simp only [List.take_succ_cons, List.take_zero, List.drop_succ_cons, List.drop_zero]
      change wpStill _ _ V.drew _ _ _
      iterate 6 still_step
      iterate 3 (refine wpStill_step (fun K hK => ?_); go_simp; (first | rw [if_neg N0.out] | rw [if_pos (show (1 : Int) < (ml.length : Int) by have := N2.out; omega)]); refine hK _ ?_; clear hK K)
      iterate 1 (refine wpStill_step (fun K hK => ?_); go_simp; (first | rw [if_neg N0.out] | rw [if_pos (show (1 : Int) < (ml.length : Int) by have := N2.out; omega)]); (first | rw [if_pos N2.out] | rw [if_pos N3.out]); go_simp; refine hK _ ?_; clear hK K)
      iterate 3 (refine wpStill_step (fun K hK => ?_); go_simp; (first | rw [if_neg N0.out] | rw [if_pos (show (1 : Int) < (ml.length : Int) by have := N2.out; omega)]); refine hK _ ?_; clear hK K)
      have n0 := N0.out
      have n2 := N2.out
      have n3 := N3.out
      have n4 : decide ((ml.length : Int) ≤ 1) = false := decide_eq_false (by have := N2.out; omega)
      still_step
      clear n0 n2 n3 n4
      still_call (when_flip _ _ _)
      still_step
      refine wpStill_nil ?_
      change wpList _ _ _ _ _ V.drew
      go_wp2_with fail
      refine (require_ok _ _ _ _).mono ?_
      rintro e w' ⟨rfl, rfl⟩
      go_wp2
      go_roundw
      case rel => exact ⟨2, by omega, by go_num, firstE_step HPre.out HE2.out, HBV.out.drew⟩
      case measure => simp [intOf]
     ·
      have HE2 := hi_ (wAt_some (HE.out.trans (by rw [decide_eq_false he2]; simp)))
      have HR3 := hi_ (HR2.out.trans (firstE_some (show 1 < 3 by decide) HPre.out HE2.out))
      have he' := nm_out_yes he
      have he2' : (yw == 8) = false := bf_ he2
      clear he he2
      refine wp_region_still_tail 16 mixed (by kernel_rfl) ?_
      simp only [List.take_succ_cons, List.take_zero, List.drop_succ_cons, List.drop_zero]
      change wpStill _ _ V.drew _ _ _
      iterate 6 still_step
      iterate 3 (refine wpStill_step (fun K hK => ?_); go_simp; (first | rw [if_neg N0.out] | rw [if_pos (show (1 : Int) < (ml.length : Int) by have := N2.out; omega)]); refine hK _ ?_; clear hK K)
      iterate 1 (refine wpStill_step (fun K hK => ?_); go_simp; (first | rw [if_neg N0.out] | rw [if_pos (show (1 : Int) < (ml.length : Int) by have := N2.out; omega)]); (first | rw [if_pos N2.out] | rw [if_pos N3.out]); go_simp; refine hK _ ?_; clear hK K)
      iterate 3 (refine wpStill_step (fun K hK => ?_); go_simp; (first | rw [if_neg N0.out] | rw [if_pos (show (1 : Int) < (ml.length : Int) by have := N2.out; omega)]); refine hK _ ?_; clear hK K)
      have n0 := N0.out
      have n2 := N2.out
      have n3 := N3.out
      have n4 : decide ((ml.length : Int) ≤ 1) = false := decide_eq_false (by have := N2.out; omega)
      still_step
      clear n0 n2 n3 n4
      still_call (when_flip _ _ _)
      still_step
      refine wpStill_nil ?_
      change wpList _ _ _ _ _ V.drew
      go_wp2_with fail
      refine (require_bad 5 2 1 0 _ rfl).mono ?_
      rintro e w' ⟨rfl, rfl⟩
      go_wp2
      exact ⟨rfl, by rw [HR3.out]; rfl, below_step HW.out HBV.out.drew⟩
    ·
     have HE2 := hi_ (wAt_some (HE.out.trans (by rw [decide_eq_false he]; simp)))
     have HR3 := hi_ (HR2.out.trans (firstE_some (show 1 < 3 by decide) HPre.out HE2.out))
     have he' := nm_out_no he
     clear he
     refine wp_region_still_tail 16 mixed (by kernel_rfl) ?_
     simp only [List.take_succ_cons, List.take_zero, List.drop_succ_cons, List.drop_zero]
     change wpStill _ _ V.drew _ _ _
     iterate 6 still_step
     iterate 3 (refine wpStill_step (fun K hK => ?_); go_simp; (first | rw [if_neg N0.out] | rw [if_pos (show (1 : Int) < (ml.length : Int) by have := N2.out; omega)]); refine hK _ ?_; clear hK K)
     iterate 1 (refine wpStill_step (fun K hK => ?_); go_simp; (first | rw [if_neg N0.out] | rw [if_pos (show (1 : Int) < (ml.length : Int) by have := N2.out; omega)]); (first | rw [if_pos N2.out] | rw [if_pos N3.out]); go_simp; refine hK _ ?_; clear hK K)
     iterate 3 (refine wpStill_step (fun K hK => ?_); go_simp; (first | rw [if_neg N0.out] | rw [if_pos (show (1 : Int) < (ml.length : Int) by have := N2.out; omega)]); refine hK _ ?_; clear hK K)
     have n0 := N0.out
     have n2 := N2.out
     have n3 := N3.out
     have n4 : decide ((ml.length : Int) ≤ 1) = false := decide_eq_false (by have := N2.out; omega)
     still_step
     clear n0 n2 n3 n4
     still_call (when_flip _ _ _)
     still_step
     refine wpStill_nil ?_
     change wpList _ _ _ _ _ V.drew
     go_wp2_with fail
     refine (require_bad 5 2 1 0 _ rfl).mono ?_
     rintro e w' ⟨rfl, rfl⟩
     go_wp2
     exact ⟨rfl, by rw [HR3.out]; rfl, below_step HW.out HBV.out.drew⟩
   case inr.inr.inl =>
    have hix := i95_2
    refine Exists.elim (box1 wr #[.string ⟨#[100, 114, 111, 112]⟩, .int .i64 1] 104) ?_
    rintro V ⟨hV, hv, hVV, hbx⟩
    have HBV := hi_ (below_step HB hv)
    have hp1 := hp V.drew (below_step HB hv).drew
    have b0 : V.drew.cell? ⟨wr.heap.size, 0, none⟩ = some (.string ⟨#[100, 114, 111, 112]⟩) := hbx V.drew hVV.drew 0 (show 0 < 2 by decide)
    have b1 : V.drew.cell? ⟨wr.heap.size, 1, none⟩ = some (.int .i64 1) := hbx V.drew hVV.drew 1 (show 1 < 2 by decide)
    by_cases hlt : 2 < ml.length
    case neg =>
     have HE2 := hi_ (wAt_some (want_out (l := ml) (i := 2) (by omega)))
     have HR3 := hi_ (HR2.out.trans (firstE_some (show 2 < 3 by decide) HPre.out HE2.out))
     have E1 : Hid ((ml.length : Int) ≤ 2) := hi_ (by omega)
     have E2 : Hid (ml.length ≤ 2) := hi_ (by omega)
     have E0 : Hid (ml.length ≤ 2) := E2
     clear hlt
     clear hv hVV hbx HB
     go_wp2
     rw [← hV]
     clear hV hix
     refine wp_region_still_tail 16 mixed (by kernel_rfl) ?_
     simp only [List.take_succ_cons, List.take_zero, List.drop_succ_cons, List.drop_zero]
     change wpStill _ _ V.drew _ _ _
     iterate 6 still_step
     iterate 7 (refine wpStill_step (fun K hK => ?_); go_simp; (first | rw [if_pos E0.out] | rw [if_neg (show ¬ (2 : Int) < (ml.length : Int) by have := E2.out; omega)]); refine hK _ ?_; clear hK K)
     have e0 := E0.out
     have e1 := E1.out
     have e2 := E2.out
     still_step
     clear e0 e1 e2
     still_call (when_flip _ _ _)
     still_step
     refine wpStill_nil ?_
     change wpList _ _ _ _ _ V.drew
     go_wp2_with fail
     refine (require_bad 5 2 2 0 _ rfl).mono ?_
     rintro e w' ⟨rfl, rfl⟩
     go_wp2
     exact ⟨rfl, by rw [HR3.out]; rfl, below_step HW.out HBV.out.drew⟩
    obtain ⟨g, of, hA, d0, d1⟩ := FieldD.at (HX.out.below HBV.out.drew (Nat.le_refl _)) hlt
    have HE := hi_ (HW2.out hlt)
    have N2 : Hid (2 < ml.length) := hi_ hlt
    have N3 : Hid ((2 : Int) < (ml.length : Int)) := hi_ (by omega)
    have N0 : Hid (¬ ml.length ≤ 2) := hi_ (by omega)
    simp only at hA
    simp only [Nat.reduceMul] at d0 d1
    subst hA
    generalize ml[2]'hlt = y at *
    obtain ⟨yn, yw⟩ := y
    simp only at HE d0 d1
    clear HW0 HW1 HW2 hv hVV hbx HB hlt
    go_wp2
    rw [← hV]
    clear hV hix
    by_cases he : yn = (⟨#[100, 114, 111, 112]⟩ : ByteArray)
    ·
     by_cases he2 : yw = 1
     ·
      have HE2 := hi_ (wAt_none (HE.out.trans (by rw [decide_eq_true he, decide_eq_true he2]; rfl)))
      have he' := nm_drop_yes he
      have he2' : (yw == 1) = true := beq_iff_eq.2 he2
      clear he he2
      refine wp_region_still_tail 16 mixed (by kernel_rfl) ?_
      simp only [List.take_succ_cons, List.take_zero, List.drop_succ_cons, List.drop_zero]
      change wpStill _ _ V.drew _ _ _
      iterate 6 still_step
      iterate 3 (refine wpStill_step (fun K hK => ?_); go_simp; (first | rw [if_neg N0.out] | rw [if_pos (show (2 : Int) < (ml.length : Int) by have := N2.out; omega)]); refine hK _ ?_; clear hK K)
      iterate 1 (refine wpStill_step (fun K hK => ?_); go_simp; (first | rw [if_neg N0.out] | rw [if_pos (show (2 : Int) < (ml.length : Int) by have := N2.out; omega)]); (first | rw [if_pos N2.out] | rw [if_pos N3.out]); go_simp; refine hK _ ?_; clear hK K)
      iterate 3 (refine wpStill_step (fun K hK => ?_); go_simp; (first | rw [if_neg N0.out] | rw [if_pos (show (2 : Int) < (ml.length : Int) by have := N2.out; omega)]); refine hK _ ?_; clear hK K)
      have n0 := N0.out
      have n2 := N2.out
      have n3 := N3.out
      have n4 : decide ((ml.length : Int) ≤ 2) = false := decide_eq_false (by have := N2.out; omega)
      still_step
      clear n0 n2 n3 n4
      still_call (when_flip _ _ _)
      still_step
      refine wpStill_nil ?_
      change wpList _ _ _ _ _ V.drew
      go_wp2_with fail
      refine (require_ok _ _ _ _).mono ?_
      rintro e w' ⟨rfl, rfl⟩
      go_wp2
      go_roundw
      case rel => exact ⟨3, by omega, by go_num, firstE_step HPre.out HE2.out, HBV.out.drew⟩
      case measure => simp [intOf]
     ·
      have HE2 := hi_ (wAt_some (HE.out.trans (by rw [decide_eq_false he2]; simp)))
      have HR3 := hi_ (HR2.out.trans (firstE_some (show 2 < 3 by decide) HPre.out HE2.out))
      have he' := nm_drop_yes he
      have he2' : (yw == 1) = false := bf_ he2
      clear he he2
      refine wp_region_still_tail 16 mixed (by kernel_rfl) ?_
      simp only [List.take_succ_cons, List.take_zero, List.drop_succ_cons, List.drop_zero]
      change wpStill _ _ V.drew _ _ _
      iterate 6 still_step
      iterate 3 (refine wpStill_step (fun K hK => ?_); go_simp; (first | rw [if_neg N0.out] | rw [if_pos (show (2 : Int) < (ml.length : Int) by have := N2.out; omega)]); refine hK _ ?_; clear hK K)
      iterate 1 (refine wpStill_step (fun K hK => ?_); go_simp; (first | rw [if_neg N0.out] | rw [if_pos (show (2 : Int) < (ml.length : Int) by have := N2.out; omega)]); (first | rw [if_pos N2.out] | rw [if_pos N3.out]); go_simp; refine hK _ ?_; clear hK K)
      iterate 3 (refine wpStill_step (fun K hK => ?_); go_simp; (first | rw [if_neg N0.out] | rw [if_pos (show (2 : Int) < (ml.length : Int) by have := N2.out; omega)]); refine hK _ ?_; clear hK K)
      have n0 := N0.out
      have n2 := N2.out
      have n3 := N3.out
      have n4 : decide ((ml.length : Int) ≤ 2) = false := decide_eq_false (by have := N2.out; omega)
      still_step
      clear n0 n2 n3 n4
      still_call (when_flip _ _ _)
      still_step
      refine wpStill_nil ?_
      change wpList _ _ _ _ _ V.drew
      go_wp2_with fail
      refine (require_bad 5 2 2 0 _ rfl).mono ?_
      rintro e w' ⟨rfl, rfl⟩
      go_wp2
      exact ⟨rfl, by rw [HR3.out]; rfl, below_step HW.out HBV.out.drew⟩
    ·
     have HE2 := hi_ (wAt_some (HE.out.trans (by rw [decide_eq_false he]; simp)))
     have HR3 := hi_ (HR2.out.trans (firstE_some (show 2 < 3 by decide) HPre.out HE2.out))
     have he' := nm_drop_no he
     clear he
     refine wp_region_still_tail 16 mixed (by kernel_rfl) ?_
     simp only [List.take_succ_cons, List.take_zero, List.drop_succ_cons, List.drop_zero]
     change wpStill _ _ V.drew _ _ _
     iterate 6 still_step
     iterate 3 (refine wpStill_step (fun K hK => ?_); go_simp; (first | rw [if_neg N0.out] | rw [if_pos (show (2 : Int) < (ml.length : Int) by have := N2.out; omega)]); refine hK _ ?_; clear hK K)
     iterate 1 (refine wpStill_step (fun K hK => ?_); go_simp; (first | rw [if_neg N0.out] | rw [if_pos (show (2 : Int) < (ml.length : Int) by have := N2.out; omega)]); (first | rw [if_pos N2.out] | rw [if_pos N3.out]); go_simp; refine hK _ ?_; clear hK K)
     iterate 3 (refine wpStill_step (fun K hK => ?_); go_simp; (first | rw [if_neg N0.out] | rw [if_pos (show (2 : Int) < (ml.length : Int) by have := N2.out; omega)]); refine hK _ ?_; clear hK K)
     have n0 := N0.out
     have n2 := N2.out
     have n3 := N3.out
     have n4 : decide ((ml.length : Int) ≤ 2) = false := decide_eq_false (by have := N2.out; omega)
     still_step
     clear n0 n2 n3 n4
     still_call (when_flip _ _ _)
     still_step
     refine wpStill_nil ?_
     change wpList _ _ _ _ _ V.drew
     go_wp2_with fail
     refine (require_bad 5 2 2 0 _ rfl).mono ?_
     rintro e w' ⟨rfl, rfl⟩
     go_wp2
     exact ⟨rfl, by rw [HR3.out]; rfl, below_step HW.out HBV.out.drew⟩
theorem catch_none (v : Value) (w : World) :
  CallsD Tryz.prog 38 #[v] .returning w fun e u' w' => e = .returned (.tuple #[]) ∧ u' = .returning ∧ w' = w := by
 refine callsD_of_wpS Tryz.func38 rfl fun c₀ cs hu => ?_
 apply wpS_seq
 apply wpS_region
 simp [wpOpsS, go_sem, recoverD, hu, Tryz.ntmps38, Exit.thenS]
 apply wpS_seq
 apply wpS_seq
 apply wpS_region
 simp [wpOpsS, go_sem, Exit.thenS]
 refine wpS_cond (t := true) (by simp [Act.eval]) ?_
 simp only [if_true]
 refine wpS_of_wp (wp_ret ?_)
 cases c₀
 simp_all [Exit.thenS, bodyPostS, results, Tryz.results38]
theorem fail_is (c pt it sb : Int) (w : World) : (Instr.typeAssert (.iface 108 (.agg #[.int .i64 c, .int .i64 pt, .int .i64 it, .int .i64 sb])) 20 108 true).run Tryz.prog w = .ok (.tuple #[.agg #[.int .i64 c, .int .i64 pt, .int .i64 it, .int .i64 sb], .bool true]) w := by kernel_rfl
theorem catch_some (c pt it sb : Int) (g : Nat) (t : TypeId) (x0 x1 x2 x3 : Int) (w : World) (hb : Blk w g t #[.int .i64 x0, .int .i64 x1, .int .i64 x2, .int .i64 x3]) :
  CallsD Tryz.prog 38 #[.pointer (some ⟨g, 0, none⟩)] (.panicking ({ v := .iface 108 (.agg #[.int .i64 c, .int .i64 pt, .int .i64 it, .int .i64 sb]), recovered := false } :: [])) w fun e u' w' =>
   e = .returned (.tuple #[]) ∧ u' = .panicking ({ v := .iface 108 (.agg #[.int .i64 c, .int .i64 pt, .int .i64 it, .int .i64 sb]), recovered := true } :: []) ∧ w' = ((((w.setCell ⟨g, 0, none⟩ (.int .i64 c)).setCell ⟨g, 1, none⟩ (.int .i64 pt)).setCell ⟨g, 2, none⟩ (.int .i64 it)).setCell ⟨g, 3, none⟩ (.int .i64 sb)).alloc (.cells #[.int .i64 c, .int .i64 pt, .int .i64 it, .int .i64 sb] 108) := by
 have h0 : w.cell? ⟨g, 0, none⟩ = some (.int .i64 x0) := hb.cell 0
 have h1 : w.cell? ⟨g, 1, none⟩ = some (.int .i64 x1) := hb.cell 1
 have h2 : w.cell? ⟨g, 2, none⟩ = some (.int .i64 x2) := hb.cell 2
 have h3 : w.cell? ⟨g, 3, none⟩ = some (.int .i64 x3) := hb.cell 3
 have f0 : w.frozen? ⟨g, 0, none⟩ = false := hb.frozen 0
 have f1 : w.frozen? ⟨g, 1, none⟩ = false := hb.frozen 1
 have f2 : w.frozen? ⟨g, 2, none⟩ = false := hb.frozen 2
 have f3 : w.frozen? ⟨g, 3, none⟩ = false := hb.frozen 3
 have hl := hb.lt
 have hta := fail_is
 have hca := @World.cell?_alloc_some
 have hfl := @World.frozen?_alloc_old
 refine callsD_of_wpS Tryz.func38 rfl fun c₀ cs hu => ?_
 apply wpS_seq
 apply wpS_region
 simp [wpOpsS, go_sem, recoverD, hu, Tryz.ntmps38, Exit.thenS]
 refine wpS_of_wp ?_
 change Code.wp _ _ _ (⟨#[.pointer (some ⟨g, 0, none⟩), .iface 108 (.agg #[.int .i64 c, .int .i64 pt, .int .i64 it, .int .i64 sb]), undef, undef, .iface 108 (.agg #[.int .i64 c, .int .i64 pt, .int .i64 it, .int .i64 sb]), undef, undef, undef, undef, undef, undef, undef, undef, undef, undef, undef], []⟩ : Act) w
 go_wp2
 clear h0 h1 h2 h3 f0 f1 f2 f3 hl hta hca hfl hb
 cases c₀
 simp_all [bodyPostS, results, Tryz.results38]
theorem diag_val (d : DiagD) : d.val = .agg #[.int .i64 d.code, .int .i64 d.part, .int .i64 d.item, .int .i64 d.sub] := rfl
def diagM (p : ProgD) : DiagD := (checkM p).getD noDiag
theorem checkM_eq (p : ProgD) : checkM p = orE (limM p) (orE (hdrsM p) (orE (metaM p) (orE (objsM p) (flowM p)))) := by
 unfold checkM objsM
 cases limM p <;> cases hdrsM p <;> cases metaM p <;> cases regsM p <;> cases actsM p <;> cases tabsM p <;> rfl
theorem check_leaves (g : Nat) (w0 w : World) (tmps : Array Value) (o : Option DiagD) (m : FrameMode) (hg : w0.heap.size ≤ g) (hb : Below w0.heap.size w0 w) (hB : Blk w g 70 #[.int .i64 0, .int .i64 0, .int .i64 0, .int .i64 0])
  (ht : (tmps[2]?).getD undef = .pointer (some ⟨g, 0, none⟩)) (hm : (o = none ∧ m = .returning) ∨ ∃ d, o = some d ∧ m = .panicking [{ v := .iface 108 d.val, recovered := false }]) :
  Leaves Tryz.prog Tryz.f21 tmps (fun e w' => e = .returned (o.getD noDiag).val ∧ Below w0.heap.size w0 w') [{ target := .fn (.func 38) #[.pointer (some ⟨g, 0, none⟩)], args := #[] }] m w := by
 rcases hm with ⟨rfl, rfl⟩ | ⟨d, rfl, rfl⟩
 ·
  have h0 : w.cell? ⟨g, 0, none⟩ = some (.int .i64 0) := hB.cell 0
  have h1 : w.cell? ⟨g, 1, none⟩ = some (.int .i64 0) := hB.cell 1
  have h2 : w.cell? ⟨g, 2, none⟩ = some (.int .i64 0) := hB.cell 2
  have h3 : w.cell? ⟨g, 3, none⟩ = some (.int .i64 0) := hB.cell 3
  refine leaves_cons (f := 38) (args := #[.pointer (some ⟨g, 0, none⟩)]) (by simp) (by simp [go_sem]) ?_
  refine (catch_none _ _).mono ?_
  rintro e u' w'' ⟨rfl, rfl, rfl⟩
  simp [Leaves, settle, results, Tryz.results21, go_sem, ht, h0, h1, h2, h3, noDiag, DiagD.val]
  exact hb
 ·
  obtain ⟨dc, dp, di, ds⟩ := d
  refine leaves_cons (f := 38) (args := #[.pointer (some ⟨g, 0, none⟩)]) (by simp) (by simp [go_sem]) ?_
  refine (catch_some dc dp di ds g _ 0 0 0 0 w hB).mono ?_
  rintro e u' w'' ⟨rfl, rfl, rfl⟩
  have hB' := (((((hB.set_ 0 (.int .i64 dc)).set_ 1 (.int .i64 dp)).set_ 2 (.int .i64 di)).set_ 3 (.int .i64 ds)).alloc (.cells #[.int .i64 dc, .int .i64 dp, .int .i64 di, .int .i64 ds] 108))
  have e0 : Below w0.heap.size w0 (w.setCell ⟨g, 0, none⟩ (.int .i64 dc)) := hb.setCell hg _
  have e1 : Below w0.heap.size w0 ((w.setCell ⟨g, 0, none⟩ (.int .i64 dc)).setCell ⟨g, 1, none⟩ (.int .i64 dp)) := e0.setCell hg _
  have e2 : Below w0.heap.size w0 (((w.setCell ⟨g, 0, none⟩ (.int .i64 dc)).setCell ⟨g, 1, none⟩ (.int .i64 dp)).setCell ⟨g, 2, none⟩ (.int .i64 di)) := e1.setCell hg _
  have e3 : Below w0.heap.size w0 ((((w.setCell ⟨g, 0, none⟩ (.int .i64 dc)).setCell ⟨g, 1, none⟩ (.int .i64 dp)).setCell ⟨g, 2, none⟩ (.int .i64 di)).setCell ⟨g, 3, none⟩ (.int .i64 ds)) := e2.setCell hg _
  have hb' := below_alloc e3 (.cells #[.int .i64 dc, .int .i64 dp, .int .i64 di, .int .i64 ds] 108)
  generalize ((((w.setCell ⟨g, 0, none⟩ (.int .i64 dc)).setCell ⟨g, 1, none⟩ (.int .i64 dp)).setCell ⟨g, 2, none⟩ (.int .i64 di)).setCell ⟨g, 3, none⟩ (.int .i64 ds)).alloc (.cells #[.int .i64 dc, .int .i64 dp, .int .i64 di, .int .i64 ds] 108) = w9 at *
  have h0 : w9.cell? ⟨g, 0, none⟩ = some (.int .i64 dc) := hB'.cell 0
  have h1 : w9.cell? ⟨g, 1, none⟩ = some (.int .i64 dp) := hB'.cell 1
  have h2 : w9.cell? ⟨g, 2, none⟩ = some (.int .i64 di) := hB'.cell 2
  have h3 : w9.cell? ⟨g, 3, none⟩ = some (.int .i64 ds) := hB'.cell 3
  simp [Leaves, settle, results, Tryz.results21, go_sem, ht, h0, h1, h2, h3, DiagD.val]
  exact hb'
theorem lim_bounds {p : ProgD} (h : limM p = none) : p.headers.l.length ≤ 8 ∧ p.registers.l.length ≤ 4 ∧ p.actions.l.length ≤ 16 ∧ p.tables.l.length ≤ 12 := by
 unfold limM at h
 split at h
 · cases h
 split at h
 · cases h
 split at h
 · cases h
 split at h
 · cases h
 split at h
 · cases h
 exact ⟨by omega, by omega, by omega, by omega⟩
theorem check_any (p : ProgD) (w : World) (o : ProgOk w p) (hc : ProgCap p) (hN : (presM p.control.l).length ≤ 90000) :
  Calls Tryz.prog 21 #[.agg (progCells p)] w fun e w' => e = .returned (diagM p).val ∧ Below w.heap.size w w' := by
 have hmf : ∀ (fn : Fn) (first cap : Array Value) (w : World), (Instr.makeFunc fn first cap).run Tryz.prog w = .ok (.func fn first cap) w := fun _ _ _ _ => rfl
 have HO := hi_ o
 have HC := hi_ hc
 have HN := hi_ hN
 have HR := hi_ (checkM_eq p)
 obtain ⟨W, hW, hw, HB, hp⟩ := box2 w (progCells p) 31 #[.int .i64 0, .int .i64 0, .int .i64 0, .int .i64 0] 70
 have HW := hi_ hw
 have hbD : Blk W (w.heap.size + 1) 70 #[.int .i64 0, .int .i64 0, .int .i64 0, .int .i64 0] := by rw [hW]; exact (by simpa using Blk.new (w.alloc (.cells (progCells p) 31)) 70 #[.int .i64 0, .int .i64 0, .int .i64 0, .int .i64 0])
 have HD := hi_ hbD
 clear o hc hN hw hbD
 go_enter_defers Tryz.func21, Tryz.ntmps21
 go_upto_region 1 with fail
 rw [← hW]
 clear hW
 go_wp2_with fail
 refine (checkLimits_any p _ HO.out.name).mono ?_
 rintro e w1 ⟨rfl, hbN⟩
 replace HB := below_step (by first | exact HB | exact ba1 HB | exact ba2 HB | exact ba3 HB) hbN
 clear hbN
 rcases h1 : limM p with _ | d
 case some =>
  have HM : Hid (checkM p = some d) := hi_ (by rw [HR.out, h1]; rfl)
  simp only [outE]
  go_wp2
  rw [diagM, HM.out]
  exact check_leaves (w.heap.size + 1) w _ _ (some d) _ (Nat.le_succ _) (below_step HW.out HB) (HD.out.below HB HD.out.lt) rfl (.inr ⟨d, rfl, rfl⟩)
 replace HR := hi_ (HR.out.trans (or2 h1))
 have HLm := hi_ (lim_bounds h1)
 simp only [outE]
 go_wp2_with fail
 refine (checkHeaders_any p _ (HO.out.below (below_step HW.out (by first | exact HB | exact ba1 HB | exact ba2 HB | exact ba3 HB))) (by have := HLm.out.1; omega) HC.out.fields).mono ?_
 rintro e w2 ⟨rfl, hbN⟩
 replace HB := below_step (by first | exact HB | exact ba1 HB | exact ba2 HB | exact ba3 HB) hbN
 clear hbN
 rcases h2 : hdrsM p with _ | d
 case some =>
  have HM : Hid (checkM p = some d) := hi_ (by rw [HR.out, h2]; rfl)
  simp only [outE]
  go_wp2
  rw [diagM, HM.out]
  exact check_leaves (w.heap.size + 1) w _ _ (some d) _ (Nat.le_succ _) (below_step HW.out HB) (HD.out.below HB HD.out.lt) rfl (.inr ⟨d, rfl, rfl⟩)
 replace HR := hi_ (HR.out.trans (or2 h2))
 simp only [outE]
 go_wp2_with fail
 refine (checkMetadata_any p _ (HO.out.below (below_step HW.out (by first | exact HB | exact ba1 HB | exact ba2 HB | exact ba3 HB)))).mono ?_
 rintro e w3 ⟨rfl, hbN⟩
 replace HB := below_step (by first | exact HB | exact ba1 HB | exact ba2 HB | exact ba3 HB) hbN
 clear hbN
 rcases h3 : metaM p with _ | d
 case some =>
  have HM : Hid (checkM p = some d) := hi_ (by rw [HR.out, h3]; rfl)
  simp only [outE]
  go_wp2
  rw [diagM, HM.out]
  exact check_leaves (w.heap.size + 1) w _ _ (some d) _ (Nat.le_succ _) (below_step HW.out HB) (HD.out.below HB HD.out.lt) rfl (.inr ⟨d, rfl, rfl⟩)
 replace HR := hi_ (HR.out.trans (or2 h3))
 simp only [outE]
 go_wp2_with fail
 refine (checkObjects_any p _ (HO.out.below (below_step HW.out (by first | exact HB | exact ba1 HB | exact ba2 HB | exact ba3 HB))) (by have := HLm.out.2.1; omega) (by have := HLm.out.2.2.1; omega) (by have := HLm.out.2.2.2; omega) HC.out.params HC.out.dflt).mono ?_
 rintro e w4 ⟨rfl, hbN⟩
 replace HB := below_step (by first | exact HB | exact ba1 HB | exact ba2 HB | exact ba3 HB) hbN
 clear hbN
 rcases h4 : objsM p with _ | d
 case some =>
  have HM : Hid (checkM p = some d) := hi_ (by rw [HR.out, h4]; rfl)
  simp only [outE]
  go_wp2
  rw [diagM, HM.out]
  exact check_leaves (w.heap.size + 1) w _ _ (some d) _ (Nat.le_succ _) (below_step HW.out HB) (HD.out.below HB HD.out.lt) rfl (.inr ⟨d, rfl, rfl⟩)
 replace HR := hi_ (HR.out.trans (or2 h4))
 simp only [outE]
 go_wp2_with fail
 refine (checkFlow_any p _ (HO.out.below (below_step HW.out (by first | exact HB | exact ba1 HB | exact ba2 HB | exact ba3 HB))) HC.out HN.out).mono ?_
 rintro e w5 ⟨rfl, hbN⟩
 replace HB := below_step (by first | exact HB | exact ba1 HB | exact ba2 HB | exact ba3 HB) hbN
 clear hbN
 rcases h5 : flowM p with _ | d
 case some =>
  have HM : Hid (checkM p = some d) := hi_ (by rw [HR.out, h5])
  simp only [outE]
  go_wp2
  rw [diagM, HM.out]
  exact check_leaves (w.heap.size + 1) w _ _ (some d) _ (Nat.le_succ _) (below_step HW.out HB) (HD.out.below HB HD.out.lt) rfl (.inr ⟨d, rfl, rfl⟩)
 have HM : Hid (checkM p = none) := hi_ (by rw [HR.out, h5])
 simp only [outE]
 have hD := HD.out.below HB HD.out.lt
 have z0 : w5.cell? ⟨w.heap.size + 1, 0, none⟩ = some (.int .i64 0) := hD.cell 0
 have z1 : w5.cell? ⟨w.heap.size + 1, 1, none⟩ = some (.int .i64 0) := hD.cell 1
 have z2 : w5.cell? ⟨w.heap.size + 1, 2, none⟩ = some (.int .i64 0) := hD.cell 2
 have z3 : w5.cell? ⟨w.heap.size + 1, 3, none⟩ = some (.int .i64 0) := hD.cell 3
 have f0 : w5.frozen? ⟨w.heap.size + 1, 0, none⟩ = false := hD.frozen 0
 have f1 : w5.frozen? ⟨w.heap.size + 1, 1, none⟩ = false := hD.frozen 1
 have f2 : w5.frozen? ⟨w.heap.size + 1, 2, none⟩ = false := hD.frozen 2
 have f3 : w5.frozen? ⟨w.heap.size + 1, 3, none⟩ = false := hD.frozen 3
 have HBw := hi_ (below_step HW.out HB)
 have HD5 := hi_ hD
 clear hD hp HB
 go_wp2
 rw [diagM, HM.out]
 have e0 : Below w.heap.size w (w5.setCell ⟨w.heap.size + 1, 0, none⟩ (.int .i64 0)) := HBw.out.setCell (Nat.le_succ _) _
 have e1 : Below w.heap.size w ((w5.setCell ⟨w.heap.size + 1, 0, none⟩ (.int .i64 0)).setCell ⟨w.heap.size + 1, 1, none⟩ (.int .i64 0)) := e0.setCell (Nat.le_succ _) _
 have e2 : Below w.heap.size w (((w5.setCell ⟨w.heap.size + 1, 0, none⟩ (.int .i64 0)).setCell ⟨w.heap.size + 1, 1, none⟩ (.int .i64 0)).setCell ⟨w.heap.size + 1, 2, none⟩ (.int .i64 0)) := e1.setCell (Nat.le_succ _) _
 have e3 : Below w.heap.size w ((((w5.setCell ⟨w.heap.size + 1, 0, none⟩ (.int .i64 0)).setCell ⟨w.heap.size + 1, 1, none⟩ (.int .i64 0)).setCell ⟨w.heap.size + 1, 2, none⟩ (.int .i64 0)).setCell ⟨w.heap.size + 1, 3, none⟩ (.int .i64 0)) := e2.setCell (Nat.le_succ _) _
 exact check_leaves (w.heap.size + 1) w _ _ none _ (Nat.le_succ _) e3 ((((HD5.out.set_ 0 (.int .i64 0)).set_ 1 (.int .i64 0)).set_ 2 (.int .i64 0)).set_ 3 (.int .i64 0)) rfl (.inl ⟨rfl, rfl⟩)
def namesOf (p : ProgD) (part : Int) : List ByteArray :=
 if part = 1 then p.headers.l.map HeaderD.name else if part = 2 then p.metadata.l.map FieldD.name else if part = 3 then p.registers.l.map RegD.name
 else if part = 4 then p.actions.l.map ActD.name else if part = 5 then p.tables.l.map TabD.name else if part = 6 then p.states.l.map StateD.name else []
def Strs (w : World) (A : Option Addr) (c : Nat) (l : List ByteArray) : Prop := l.length = 0 ∨ ∃ g, A = some ⟨g, 0, none⟩ ∧ g < w.heap.size ∧ l.length ≤ c ∧ ∀ j, j < l.length → w.cell? ⟨g, 0 + j, none⟩ = some (.string (l.getD j ByteArray.empty))
theorem OwnStrs.strs {w : World} {B c : Nat} {A : Option Addr} {l : List ByteArray} (h : OwnStrs w B A c l) : Strs w A c l := by
 by_cases h0 : 0 < l.length
 ·
  obtain ⟨g, e, h1, h2, h3⟩ := h.form h0
  exact .inr ⟨g, e, h1, h2, h3⟩
 · exact .inl (by omega)
def lookM (l : List ByteArray) (s : ByteArray) : Int × Bool := if Lib.idxOfS l s < 0 then (0, false) else (Lib.idxOfS l s, true)
structure OpP where
 kind : Int
 table : Int
 id : Int
 keys : List KmD
 prio : Int
 ea : Int
 eargs : List Int
 ca : Int
 cargs : List Int
 deriving DecidableEq
def OpP.zero : OpP := ⟨0, 0, 0, [], 0, 0, [], 0, []⟩
structure OpD where
 kind : Int
 table : Int
 id : Int
 keys : L KmD
 prio : Int
 ea : Int
 eargs : L Int
 ca : Int
 cargs : L Int
def OpD.bare (o : OpD) : OpP := ⟨o.kind, o.table, o.id, o.keys.l, o.prio, o.ea, o.eargs.l, o.ca, o.cargs.l⟩
@[reducible] def opCells (o : OpD) : Array Value := #[.int .i64 o.kind, .int .i64 o.table, .int .i64 o.id, o.keys.v, .int .i64 o.prio, .int .i64 o.ea, o.eargs.v, .int .i64 o.ca, o.cargs.v]
structure OpOk (w : World) (o : OpD) : Prop where
 keys : LOk w 2 KmD.cells o.keys
 eargs : LOk w 1 ucell o.eargs
 cargs : LOk w 1 ucell o.cargs
theorem OpOk.below {w w' : World} {o : OpD} (h : OpOk w o) (hb : Below w.heap.size w w') : OpOk w' o :=
 ⟨h.keys.below hb (Nat.le_refl _), h.eargs.below hb (Nat.le_refl _), h.cargs.below hb (Nat.le_refl _)⟩
structure OpFine (o : OpP) : Prop where
 kind : (Lit.int .i64 o.kind).wf = true
 table : (Lit.int .i64 o.table).wf = true
 id : (Lit.int .i64 o.id).wf = true
 keys : ∀ k ∈ o.keys, (Lit.int .u32 k.v).wf = true ∧ (Lit.int .u32 k.m).wf = true
 prio : (Lit.int .i64 o.prio).wf = true
 ea : (Lit.int .i64 o.ea).wf = true
 eargs : ∀ v ∈ o.eargs, (Lit.int .u32 v).wf = true
 ca : (Lit.int .i64 o.ca).wf = true
 cargs : ∀ v ∈ o.cargs, (Lit.int .u32 v).wf = true
def keyChkM (k : KmD) (kind w : Int) : Int :=
 if fitsM k.v w = false ∨ fitsM k.m w = false then 9
 else if within k.v k.m = false then 5
 else if kind = 1 ∧ k.m ≠ maskM w then 11
 else if kind = 2 ∧ prefixM k.m w = false then 11 else 0
def keyErrM (p : ProgD) (ks : List KmD) (l : List KeyD) (i : Nat) : Option Int :=
 match ks[i]?, l[i]? with
 | some k, some x => if keyChkM k x.kind (widthAt p x.h x.f) ≠ 0 then some (keyChkM k x.kind (widthAt p x.h x.f)) else none
 | _, _ => none
def mayM (p : ProgD) (t : TabD) (a : Int) (args : List Int) : Int := if a ∈ t.acts.l then callM p a args else 8
def entM (p : ProgD) (t : TabD) (ks : List KmD) (prio a : Int) (args : List Int) : Int :=
 if ks.length ≠ t.keys.l.length then 2
 else match firstE t.keys.l.length (keyErrM p ks t.keys.l) with
 | some e => e
 | none => if prio < 0 ∨ 255 < prio then 9 else if prio ≠ 0 ∧ kindT t.keys.l ≠ 3 then 11 else mayM p t a args
def opChk (p : ProgD) (o : OpP) : Int :=
 if o.kind < 1 ∨ 4 < o.kind then 11
 else if o.table < 0 then 8
 else match p.tables.l[o.table.toNat]? with
 | none => 8
 | some t =>
  if o.kind = 1 then entM p t o.keys o.prio o.ea o.eargs
  else if o.kind ≠ 4 ∧ (o.id < 1 ∨ 1073741824 < o.id) then 9
  else if o.kind = 3 then 0
  else mayM p t o.ca o.cargs
def decI (n : Int) : List UInt8 := dec n.toNat
def argsX (l : List Int) : List UInt8 := Lib.join (l.map decI) [44, 32]
def nameA (p : ProgD) (a : Int) : List UInt8 := ((p.actions.l[a.toNat]?).map fun x => x.name.data.toList).getD []
def nameT (p : ProgD) (t : Int) : List UInt8 := ((p.tables.l[t.toNat]?).map fun x => x.name.data.toList).getD []
def callT (p : ProgD) (a : Int) (l : List Int) : List UInt8 := nameA p a ++ [40] ++ argsX l ++ [41]
def keyT (k : KmD) : List UInt8 := decI k.v ++ [47] ++ decI k.m
def keysT (l : List KmD) : List UInt8 := (l.map fun k => 32 :: keyT k).flatten
def opT (p : ProgD) (o : OpP) : List UInt8 :=
 if o.kind = 1 then wIns ++ [32] ++ nameT p o.table ++ keysT o.keys ++ [32] ++ wPrio ++ [32] ++ Lib.itoa o.prio ++ [32] ++ wArrow ++ [32] ++ callT p o.ea o.eargs
 else if o.kind = 2 then wMod ++ [32] ++ nameT p o.table ++ [32] ++ Lib.itoa o.id ++ [32] ++ wArrow ++ [32] ++ callT p o.ca o.cargs
 else if o.kind = 3 then wDel ++ [32] ++ nameT p o.table ++ [32] ++ Lib.itoa o.id
 else wDef ++ [32] ++ nameT p o.table ++ [32] ++ wArrow ++ [32] ++ callT p o.ca o.cargs
def fmtOp (p : ProgD) (o : OpP) : List UInt8 × Int := if opChk p o ≠ 0 then ([], opChk p o) else (opT p o, 0)
def formatM (p : ProgD) (o : OpP) : List UInt8 × Int := if (diagM p).code ≠ 0 then ([], (diagM p).code) else fmtOp p o
def resA (ts : List Tk) (names : List ByteArray) (s : PS) : Int × PS :=
 match (takeA ts 1 [] s).2 with
 | .bad e => (0, .bad e)
 | .ok i => if (lookM names ⟨(takeA ts 1 [] s).1.text.toArray⟩).2 = true then ((lookM names ⟨(takeA ts 1 [] s).1.text.toArray⟩).1, .ok i) else (0, .bad 8)
def callA (p : ProgD) (ts : List Tk) (s : PS) : (Int × List Int) × PS :=
 let r := resA ts (p.actions.l.map ActD.name) (stepA ts 3 wArrow s)
 let l := argsA ts (ts.length + 2) true [] (stepA ts 3 [40] r.2)
 ((r.1, l.1), stepA ts 3 [41] l.2)
def opA (p : ProgD) (ts : List Tk) : OpP × PS :=
 let k := kindW (nxt ts 0).text
 if k = 0 then (OpP.zero, .bad 5)
 else
  let r := resA ts (p.tables.l.map TabD.name) (.ok 1)
  if k = 1 then
   let ks := keysA ts (ts.length + 2) [] r.2
   let n := numA ts (stepA ts 1 wPrio ks.2)
   let c := callA p ts n.2
   (⟨1, r.1, 0, ks.1, n.1, c.1.1, c.1.2, 0, []⟩, c.2)
  else if k = 2 then
   let n := numA ts r.2
   let c := callA p ts n.2
   (⟨2, r.1, n.1, [], 0, 0, [], c.1.1, c.1.2⟩, c.2)
  else if k = 3 then
   let n := numA ts r.2
   (⟨3, r.1, n.1, [], 0, 0, [], 0, []⟩, n.2)
  else
   let c := callA p ts r.2
   (⟨4, r.1, 0, [], 0, 0, [], c.1.1, c.1.2⟩, c.2)
def endA (ts : List Tk) : PS → PS
 | .bad e => .bad e
 | .ok i => if i < ts.length then .bad 5 else .ok i
def readM (p : ProgD) (s : List UInt8) : OpP × Int :=
 if (tokenize s).2.2 ≠ 0 then (OpP.zero, (tokenize s).2.2)
 else match endA (tokenize s).1 (opA p (tokenize s).1).2 with
 | .bad e => (OpP.zero, e)
 | .ok _ =>
  if opChk p (opA p (tokenize s).1).1 ≠ 0 then (OpP.zero, opChk p (opA p (tokenize s).1).1)
  else if opT p (opA p (tokenize s).1).1 ≠ s then (OpP.zero, 23)
  else ((opA p (tokenize s).1).1, 0)
def parseOpM (p : ProgD) (s : List UInt8) : OpP × Int := if (diagM p).code ≠ 0 then (OpP.zero, (diagM p).code) else readM p s
def linesM : List UInt8 → List (List UInt8)
 | [] => [[]]
 | c :: r => if c = 10 then [] :: linesM r else match linesM r with
  | [] => [[c]]
  | l :: m => (c :: l) :: m
def blankM (l : List UInt8) : Bool := l.all fun c => decide (c = 32)
def scriptG (p : ProgD) : List (List UInt8) → Nat → List OpP → List OpP × Nat × Int
 | [], _, out => (out, 0, 0)
 | l :: r, n, out =>
  if blankM l = true then scriptG p r (n + 1) out
  else if (readM p l).2 ≠ 0 then ([], n + 1, (readM p l).2)
  else scriptG p r (n + 1) (out ++ [(readM p l).1])
def scriptM (p : ProgD) (s : List UInt8) : List OpP × Nat × Int :=
 if 16384 < s.length then ([], 0, 4)
 else if (diagM p).code ≠ 0 then ([], 0, (diagM p).code)
 else scriptG p (linesM s) 0 []
section
open Go.RowKit Go.WideShapes Go.ChangeShapes
structure KmGood (k : KmD) : Prop where
 v : UOk k.v
 m : UOk k.m
structure OpGood (w : World) (o : OpD) : Prop where
 kind : IOk o.kind
 table : IOk o.table
 id : IOk o.id
 keys : ListOk w 2 8 KmD.cells KmGood o.keys
 prio : IOk o.prio
 ea : IOk o.ea
 eargs : ListOk w 1 4 ucell UOk o.eargs
 ca : IOk o.ca
 cargs : ListOk w 1 4 ucell UOk o.cargs
theorem OpGood.ok {w : World} {o : OpD} (h : OpGood w o) : OpOk w o := ⟨h.keys.lok, h.eargs.lok, h.cargs.lok⟩
theorem OpGood.fine {w : World} {o : OpD} (h : OpGood w o) : OpFine o.bare :=
 ⟨h.kind, h.table, h.id, fun k hk => ⟨(h.keys.all k hk).v, (h.keys.all k hk).m⟩, h.prio, h.ea, fun v hv => h.eargs.all v hv, h.ca, fun v hv => h.cargs.all v hv⟩
section
variable {H : Type} {enc : TypeId × Value → H} {w : World} {base : Nat} {held : Bool}
theorem rd_km (N : Nat) : RdB enc Tryz.prog w base held N 68 KmD.cells KmGood := by
 intro m hm cs x h hw
 obtain ⟨xs, n, e1, hx, hlen, hl, hf⟩ := DataW.trod_struct Tryz.underlying68 h
 subst hx
 simp only [DataW.weights, Tryz.underlying68] at hw
 obtain ⟨d0, h0, w0⟩ := rd_field (N := N) 0 _ 0 1 hf hl hw rfl rfl rfl (by kernel_rfl) (rd_int Tryz.underlying66) (by omega)
 obtain ⟨d1, h1, w1⟩ := rd_field (N := N) 1 _ 1 1 hf hl hw rfl rfl rfl (by kernel_rfl) (rd_int Tryz.underlying66) (by omega)
 have e2 : cs.length = 2 := hlen.trans (by kernel_rfl)
 refine ⟨⟨d0, d1⟩, cells_eq e2 fun i hi => ?_, ⟨w0, w1⟩⟩
 match i, hi with
 | 0, _ => exact cell_of_cut h0
 | 1, _ => exact cell_of_cut h1
theorem rd_kms (N : Nat) : RdB enc Tryz.prog w base held N 32 (fun y : L KmD => [y.v]) (ListOk w 2 8 KmD.cells KmGood) :=
 (rd_list (N := N) (k := 2) (kb := 8) Tryz.underlying32 (by kernel_rfl) (by kernel_rfl) (by decide) (fun _ => rfl) (rd_km N)).mono (Nat.le_succ N)
structure EntG where
 keys : L KmD
 prio : Int
 a : Int
 args : L Int
theorem rd_entry (N : Nat) : RdB enc Tryz.prog w base held N 37 (fun e : EntG => [e.keys.v, .int .i64 e.prio, .int .i64 e.a, e.args.v]) (fun e => ListOk w 2 8 KmD.cells KmGood e.keys ∧ IOk e.prio ∧ IOk e.a ∧ ListOk w 1 4 ucell UOk e.args) := by
 intro m hm cs x h hw
 obtain ⟨xs, n, e1, hx, hlen, hl, hf⟩ := DataW.trod_struct Tryz.underlying37 h
 subst hx
 simp only [DataW.weights, Tryz.underlying37] at hw
 obtain ⟨d0, h0, w0⟩ := rd_field (N := N) 0 _ 0 1 hf hl hw rfl rfl rfl (by kernel_rfl) (rd_kms N) (by omega)
 obtain ⟨d1, h1, w1⟩ := rd_field (N := N) 1 _ 1 1 hf hl hw rfl rfl rfl (by kernel_rfl) (rd_int Tryz.underlying3) (by omega)
 obtain ⟨d2, h2, w2⟩ := rd_field (N := N) 2 _ 2 2 hf hl hw rfl rfl rfl (by kernel_rfl) (rd_call N) (by omega)
 have e2 : cs.length = 4 := hlen.trans (by kernel_rfl)
 refine ⟨⟨d0, d1, d2.1, d2.2⟩, cells_eq e2 fun i hi => ?_, ⟨w0, w1, w2.1, w2.2⟩⟩
 match i, hi with
 | 0, _ => exact cell_of_cut h0
 | 1, _ => exact cell_of_cut h1
 | 2, _ => exact cut_get h2 0 (by simp)
 | 3, _ => exact cut_get h2 1 (by simp)
theorem rd_op (N : Nat) : RdB enc Tryz.prog w base held N 39 (fun o : OpD => (opCells o).toList) (OpGood w) := by
 intro m hm cs x h hw
 obtain ⟨xs, n, e1, hx, hlen, hl, hf⟩ := DataW.trod_struct Tryz.underlying39 h
 subst hx
 simp only [DataW.weights, Tryz.underlying39] at hw
 obtain ⟨d0, h0, w0⟩ := rd_field (N := N) 0 _ 0 1 hf hl hw rfl rfl rfl (by kernel_rfl) (rd_int Tryz.underlying3) (by omega)
 obtain ⟨d1, h1, w1⟩ := rd_field (N := N) 1 _ 1 1 hf hl hw rfl rfl rfl (by kernel_rfl) (rd_int Tryz.underlying3) (by omega)
 obtain ⟨d2, h2, w2⟩ := rd_field (N := N) 2 _ 2 1 hf hl hw rfl rfl rfl (by kernel_rfl) (rd_int Tryz.underlying3) (by omega)
 obtain ⟨d3, h3, w3⟩ := rd_field (N := N) 3 _ 3 4 hf hl hw rfl rfl rfl (by kernel_rfl) (rd_entry N) (by omega)
 obtain ⟨d4, h4, w4⟩ := rd_field (N := N) 4 _ 7 2 hf hl hw rfl rfl rfl (by kernel_rfl) (rd_call N) (by omega)
 have e2 : cs.length = 9 := hlen.trans (by kernel_rfl)
 refine ⟨⟨d0, d1, d2, d3.keys, d3.prio, d3.a, d3.args, d4.1, d4.2⟩, cells_eq e2 fun i hi => ?_, ⟨w0, w1, w2, w3.1, w3.2.1, w3.2.2.1, w3.2.2.2, w4.1, w4.2⟩⟩
 match i, hi with
 | 0, _ => exact cell_of_cut h0
 | 1, _ => exact cell_of_cut h1
 | 2, _ => exact cell_of_cut h2
 | 3, _ => exact cut_get h3 0 (by simp)
 | 4, _ => exact cut_get h3 1 (by simp)
 | 5, _ => exact cut_get h3 2 (by simp)
 | 6, _ => exact cut_get h3 3 (by simp)
 | 7, _ => exact cut_get h4 0 (by simp)
 | 8, _ => exact cut_get h4 1 (by simp)
end
end
theorem pmask_le (n w : Nat) (hw : w ≤ 32) : 2 ^ (w - n) ≤ 2 ^ w ∧ 2 ^ w ≤ 4294967296 ∧ 1 ≤ 2 ^ (w - n) :=
 ⟨Nat.pow_le_pow_right (by decide) (by omega), Nat.pow_le_pow_right (by decide) hw, Nat.one_le_two_pow⟩
theorem rpmask_any (n w : Nat) (hn : n ≤ w) (hw : w ≤ 32) (h1 : 1 ≤ w) (u : World) :
  Calls Tryz.prog 240 #[.int .i64 n, .int .i64 w] u fun e w' => e = .returned (.int .u32 (pmaskM n w)) ∧ u = w' := by
 have HV := hi_ (show okW (w : Int) = true by rw [okW]; simp; omega)
 have m1 : max (n : Int) 0 = n := by omega
 have m2 : min (n : Int) w = n := by omega
 have hle := pmask_le n w hw
 have HE : Hid ((((2 ^ w : Nat) : Int) - ((2 ^ (w - n) : Nat) : Int)) = (pmaskM n w : Int)) := hi_ (by rw [pmaskM]; omega)
 have hp1 := rpower_any w (by omega) u
 have hp2 := rpower_any (w - n) (by omega) u
 have e3 : ((w - n : Nat) : Int) = (w : Int) - n := by omega
 rw [e3] at hp2
 have hv := rvalid_any (w : Int) u
 have y0 : 0 ≤ ((2 ^ (w - n) : Nat) : Int) ∧ ((2 ^ (w - n) : Nat) : Int) ≤ ((2 ^ w : Nat) : Int) ∧ ((2 ^ w : Nat) : Int) ≤ 4294967296 ∧ 1 ≤ ((2 ^ (w - n) : Nat) : Int) := by omega
 clear hle
 generalize ((2 ^ w : Nat) : Int) = x at *
 generalize ((2 ^ (w - n) : Nat) : Int) = y at *
 clear e3
 obtain ⟨y1, y2, y3, y4⟩ := y0
 go_enter Tryz.func240, Tryz.ntmps240
 go_wp2_with fail
 refine hv.mono ?_
 rintro e w1 ⟨rfl, rfl⟩
 rw [HV.out]
 go_wp2_with fail
 refine hp1.mono ?_
 rintro e w1 ⟨rfl, rfl⟩
 go_wp2_with fail
 refine hp2.mono ?_
 rintro e w1 ⟨rfl, rfl⟩
 go_wp2
 go_ret
 exact ⟨by rw [← HE.out]; rfl, rfl⟩
theorem rplen_any (m : Int) (w : Nat) (hw : w ≤ 32) (h1 : 1 ≤ w) (u : World) :
  Calls Tryz.prog 188 #[.int .u32 m, .int .i64 w] u fun e w' => (∃ n : Int, e = .returned (.tuple #[.int .i64 n, .bool (prefixM m w)])) ∧ u = w' := by
 have hv : okW (w : Int) = true := by rw [okW]; simp; omega
 have HV := hi_ hv
 have HY := hi_ (fun (k : Nat) (hk : k ≤ w) => prefix_yes (m := m) hv hk)
 have HN := hi_ (@prefix_no m w)
 have HP := hi_ (fun (k : Nat) (hk : k ≤ w) => rpmask_any k w hk hw h1 u)
 have hvd := rvalid_any (w : Int) u
 rw [hv] at hvd
 generalize prefixM m w = pr at *
 clear hv
 go_enter Tryz.func188, Tryz.ntmps188
 go_wp2
 go_loopw [6] (fun iv wr => ∃ k : Nat, k ≤ w + 1 ∧ iv = .int .i64 k ∧ Hid (∀ j, j < k → (pmaskM j w : Int) ≠ m) ∧ wr = u) (fun i _ => w + 1 - (intOf i).toNat)
 case atStart => exact ⟨0, by omega, rfl, hi_ (fun j h => absurd h (Nat.not_lt_zero _)), rfl⟩
 case round =>
  obtain ⟨k, hk, rfl, HK, rfl⟩ := hrel
  by_cases hlt : k ≤ w
  ·
   by_cases he : (pmaskM k w : Int) = m
   ·
    have HE := hi_ (HY.out k hlt he)
    have hp := HP.out k hlt
    generalize hx : (pmaskM k w : Int) = x at *
    subst he
    go_wp2_with fail
    refine hvd.mono ?_
    rintro e w1 ⟨rfl, rfl⟩
    go_wp2_with fail
    refine hp.mono ?_
    rintro e w1 ⟨rfl, rfl⟩
    go_wp2
    go_ret2
    exact ⟨⟨k, by rw [HE.out]; rfl⟩, rfl⟩
   ·
    have HK2 : Hid (∀ j, j < k + 1 → (pmaskM j w : Int) ≠ m) := hi_ (fun j hj => by
     rcases Nat.lt_or_ge j k with h | h
     · exact HK.out j h
     · rw [show j = k by omega]; exact he)
    have hp := HP.out k hlt
    generalize hx : (pmaskM k w : Int) = x at *
    have hb' : (x == m) = false := by simpa using he
    clear he hx
    go_wp2_with fail
    refine hvd.mono ?_
    rintro e w1 ⟨rfl, rfl⟩
    go_wp2_with fail
    refine hp.mono ?_
    rintro e w1 ⟨rfl, rfl⟩
    go_wp2
    go_roundw
    case rel => exact ⟨k + 1, by omega, by go_num, HK2, by first | rfl | trivial⟩
    case measure => simp [intOf]; omega
  ·
   have HE := hi_ (HN.out (fun j hj => HK.out j (by omega)))
   go_wp2
   go_ret2
   exact ⟨⟨0, by rw [HE.out]; rfl⟩, rfl⟩
@[reducible] def kmCells (k : KmD) : Array Value := #[.int .u32 k.v, .int .u32 k.m]
theorem andNot_within {v m : Int} (hv : (Lit.int .u32 v).wf = true) (hm : (Lit.int .u32 m).wf = true) : (bits BinOp.andNot IntKind.u32 v m == 0) = within v m := by
 obtain ⟨a, rfl, la⟩ := wf_u32 hv
 obtain ⟨b, rfl, lb⟩ := wf_u32 hm
 exact andNot_zero a b la lb
theorem and_within {v m : Int} (hv : (Lit.int .u32 v).wf = true) (hm : (Lit.int .u32 m).wf = true) : (bits BinOp.and IntKind.u32 v m == v) = within v m := by
 obtain ⟨a, rfl, la⟩ := wf_u32 hv
 obtain ⟨b, rfl, lb⟩ := wf_u32 hm
 rw [bits_and_u32 a b la lb, within, Bool.eq_iff_iff, beq_iff_eq, decide_eq_true_iff]
 simp only [Int.toNat_natCast]
 omega
theorem width_nat {w : Int} (h : okW w = true) : ∃ n : Nat, w = n ∧ n ≤ 32 ∧ 1 ≤ n := by
 rw [okW] at h
 simp only [Bool.and_eq_true, decide_eq_true_eq] at h
 exact ⟨w.toNat, by omega, by omega, by omega⟩
theorem checkKey_any (k : KmD) (kind wd : Int) (w : World) (hw : okW wd = true) (hv : (Lit.int .u32 k.v).wf = true) (hm : (Lit.int .u32 k.m).wf = true) :
  Calls Tryz.prog 168 #[.agg (kmCells k), .int .i64 kind, .int .i64 wd] w fun e w' => e = .returned (.int .i64 (keyChkM k kind wd)) ∧ Below w.heap.size w w' := by
 have HR := hi_ (keyChkM.eq_1 k kind wd)
 obtain ⟨v, m⟩ := k
 have hz := andNot_within hv hm
 obtain ⟨n, rfl, hn, hn1⟩ := width_nat hw
 have HP := hi_ (fun u => plen_any m n hn hn1 u)
 have HMk := hi_ (fun u => mask_any (n : Int) u)
 clear hv hm
 simp only at HR hz
 generalize prefixM m n = pr at *
 generalize ((maskM (n : Int) : Nat) : Int) = mk at *
 obtain ⟨W, hW, hw1, HB, hp⟩ := box1 w (kmCells ⟨v, m⟩) 68
 have HW := hi_ hw1
 clear hw1 hw
 cases h1 : fitsM v n
 ·
  replace HR := tr_ HR (if_pos (.inl h1))
  go_enter Tryz.func168, Tryz.ntmps168
  go_upto_region 1 with fail
  rw [← hW]
  clear hW
  have hp3 := hp W HB
  go_wp2_with fail
  refine (fits_any v n _).mono ?_
  rintro e w2 ⟨rfl, hbN⟩
  replace HB := below_step (by first | exact HB | exact ba1 HB | exact ba2 HB | exact ba3 HB) hbN
  clear hbN
  rw [h1]
  go_wp2
  go_ret
  exact ⟨by rw [HR.out]; rfl, below_step HW.out HB⟩
 cases h2 : fitsM m n
 ·
  replace HR := tr_ HR (if_pos (.inr h2))
  go_enter Tryz.func168, Tryz.ntmps168
  go_upto_region 1 with fail
  rw [← hW]
  clear hW
  have hp3 := hp W HB
  go_wp2_with fail
  refine (fits_any v n _).mono ?_
  rintro e w2 ⟨rfl, hbN⟩
  replace HB := below_step (by first | exact HB | exact ba1 HB | exact ba2 HB | exact ba3 HB) hbN
  clear hbN
  rw [h1]
  have hp4 := hp _ HB
  go_wp2_with fail
  refine (fits_any m n _).mono ?_
  rintro e w3 ⟨rfl, hbN⟩
  replace HB := below_step (by first | exact HB | exact ba1 HB | exact ba2 HB | exact ba3 HB) hbN
  clear hbN
  rw [h2]
  go_wp2
  go_ret
  exact ⟨by rw [HR.out]; rfl, below_step HW.out HB⟩
 replace HR := tr_ HR (if_neg (by rw [h1, h2]; simp))
 cases h3 : within v m
 ·
  replace HR := tr_ HR (if_pos h3)
  rw [h3] at hz
  have hz2 : (bits BinOp.andNot IntKind.u32 v m != 0) = true := by rw [bne, hz]; rfl
  go_enter Tryz.func168, Tryz.ntmps168
  go_upto_region 1 with fail
  rw [← hW]
  clear hW
  have hp3 := hp W HB
  go_wp2_with fail
  refine (fits_any v n _).mono ?_
  rintro e w2 ⟨rfl, hbN⟩
  replace HB := below_step (by first | exact HB | exact ba1 HB | exact ba2 HB | exact ba3 HB) hbN
  clear hbN
  rw [h1]
  have hp4 := hp _ HB
  go_wp2_with fail
  refine (fits_any m n _).mono ?_
  rintro e w3 ⟨rfl, hbN⟩
  replace HB := below_step (by first | exact HB | exact ba1 HB | exact ba2 HB | exact ba3 HB) hbN
  clear hbN
  rw [h2]
  have hp5 := hp _ HB
  go_wp2
  go_ret
  exact ⟨by rw [HR.out]; rfl, below_step HW.out HB⟩
 replace HR := tr_ HR (if_neg (by rw [h3]; simp))
 rw [h3] at hz
 have hz2 : (bits BinOp.andNot IntKind.u32 v m != 0) = false := by rw [bne, hz]; rfl
 by_cases hk1 : kind = 1
 ·
  subst hk1
  go_enter Tryz.func168, Tryz.ntmps168
  go_upto_region 1 with fail
  rw [← hW]
  clear hW
  have hp3 := hp W HB
  go_wp2_with fail
  refine (fits_any v n _).mono ?_
  rintro e w2 ⟨rfl, hbN⟩
  replace HB := below_step (by first | exact HB | exact ba1 HB | exact ba2 HB | exact ba3 HB) hbN
  clear hbN
  rw [h1]
  have hp4 := hp _ HB
  go_wp2_with fail
  refine (fits_any m n _).mono ?_
  rintro e w3 ⟨rfl, hbN⟩
  replace HB := below_step (by first | exact HB | exact ba1 HB | exact ba2 HB | exact ba3 HB) hbN
  clear hbN
  rw [h2]
  have hp5 := hp _ HB
  clear hp3 hp4
  go_upto_region 5 with fail
  have H0 := hi_ HB
  clear hp5
  go_region_held3 (fun w' => Below W.heap.size W w') (first | exact H0.out | exact below_drew H0.out | (exact below_step (by assumption) (by assumption)) | assumption)
   (first | (go_at_call 153; refine (HMk.out _).mono ?_; rintro e w1 ⟨rfl, hb1⟩))
  have HB5 : Hid (Below W.heap.size W _) := hi_ (by assumption)
  by_cases he : m = mk
  ·
   have hb : (m != mk) = false := by rw [he]; simp
   replace HR := hi_ (HR.out.trans ((if_neg (by rw [he]; simp)).trans (if_neg (by rintro ⟨h, _⟩; exact absurd h (by decide)))))
   go_wp2
   go_ret
   exact ⟨by rw [HR.out]; rfl, below_step HW.out HB5.out⟩
  ·
   have hb : (m != mk) = true := by simpa using he
   replace HR := hi_ (HR.out.trans (if_pos ⟨by first | rfl | trivial, he⟩))
   go_wp2
   go_ret
   exact ⟨by rw [HR.out]; rfl, below_step HW.out HB5.out⟩
 ·
  have hk1b : (kind == 1) = false := by simpa using hk1
  replace HR := tr_ HR (if_neg (by rintro ⟨h, _⟩; exact hk1 h))
  by_cases hk2 : kind = 2
  ·
   subst hk2
   go_enter Tryz.func168, Tryz.ntmps168
   go_upto_region 1 with fail
   rw [← hW]
   clear hW
   have hp3 := hp W HB
   go_wp2_with fail
   refine (fits_any v n _).mono ?_
   rintro e w2 ⟨rfl, hbN⟩
   replace HB := below_step (by first | exact HB | exact ba1 HB | exact ba2 HB | exact ba3 HB) hbN
   clear hbN
   rw [h1]
   have hp4 := hp _ HB
   go_wp2_with fail
   refine (fits_any m n _).mono ?_
   rintro e w3 ⟨rfl, hbN⟩
   replace HB := below_step (by first | exact HB | exact ba1 HB | exact ba2 HB | exact ba3 HB) hbN
   clear hbN
   rw [h2]
   have hp5 := hp _ HB
   clear hp3 hp4
   go_upto_region 5 with fail
   go_quiet (fail)
   have HB5 : Hid (Below W.heap.size W (w3.drewN nq)) := hi_ (below_drewN HB nq)
   have hp6 := hp _ HB5.out
   clear hp5
   go_wp2_with fail
   refine (HP.out _).mono ?_
   rintro e w5 ⟨⟨z, rfl⟩, hb5⟩
   have HB6 := hi_ (below_step HB5.out hb5)
   clear hb5 hp6
   cases pr with
   | true =>
    replace HR := tr_ HR (if_neg (by rintro ⟨_, h⟩; cases h))
    go_wp2
    go_ret
    exact ⟨by rw [HR.out]; rfl, below_step HW.out HB6.out⟩
   | false =>
    replace HR := hi_ (HR.out.trans (if_pos ⟨by first | rfl | trivial, rfl⟩))
    go_wp2
    go_ret
    exact ⟨by rw [HR.out]; rfl, below_step HW.out HB6.out⟩
  ·
   have hk2b : (kind == 2) = false := by simpa using hk2
   replace HR := tr_ HR (if_neg (by rintro ⟨h, _⟩; exact hk2 h))
   go_enter Tryz.func168, Tryz.ntmps168
   go_upto_region 1 with fail
   rw [← hW]
   clear hW
   have hp3 := hp W HB
   go_wp2_with fail
   refine (fits_any v n _).mono ?_
   rintro e w2 ⟨rfl, hbN⟩
   replace HB := below_step (by first | exact HB | exact ba1 HB | exact ba2 HB | exact ba3 HB) hbN
   clear hbN
   rw [h1]
   have hp4 := hp _ HB
   go_wp2_with fail
   refine (fits_any m n _).mono ?_
   rintro e w3 ⟨rfl, hbN⟩
   replace HB := below_step (by first | exact HB | exact ba1 HB | exact ba2 HB | exact ba3 HB) hbN
   clear hbN
   rw [h2]
   have hp5 := hp _ HB
   clear hp3 hp4
   go_upto_region 5 with fail
   go_quiet (fail)
   have HB5 : Hid (Below W.heap.size W (w3.drewN nq)) := hi_ (below_drewN HB nq)
   clear hp5
   go_wp2
   go_ret
   exact ⟨by rw [HR.out]; rfl, below_step HW.out HB5.out⟩
theorem tallows_any (p : ProgD) (i : Nat) (hi : i < p.tables.l.length) (n : Int) (w : World) (o : ProgOk w p) (hc : ∀ t ∈ p.tables.l, (Lit.int .i64 t.defA).wf = true) (hf : TabFine p p.tables.l[i]) :
  Calls Tryz.prog 170 #[.agg (progCells p), .int .i64 i, .int .i64 n] w fun e w' => e = .returned (.bool (decide (n ∈ p.tables.l[i].acts.l))) ∧ Below w.heap.size w w' := by
 have HO := hi_ o
 obtain ⟨W, hW, hw, HB, hp⟩ := box1 w (progCells p) 31
 have HW := hi_ hw
 have hvl := fun u (hb : Below W.heap.size W u) => tvalid_any p i hi u (o.below (below_step hw hb)) hc hf.ok
 have HK := hi_ ((o.tab _ (List.getElem_mem hi)).below hw).acts
 obtain ⟨g, of, hA, hq⟩ := TabD.atA (o.tables.below hw (Nat.le_refl _)) hi
 have hn1 : (i : Int) < (p.tables.l.length : Int) := by omega
 clear o hw hc hf
 generalize p.tables.l[i] = t at *
 obtain ⟨tn, tk, ⟨kl, kA, kc⟩, td, tg, tz⟩ := t
 simp only at hq HK ⊢
 simp only [progCells, hA] at hp hW hvl ⊢
 have HVl := hi_ hvl
 have hmk : kl.length ≤ 9223372036854775807 := HK.out.1
 clear hA hvl
 go_enter Tryz.func170, Tryz.ntmps170
 go_upto_region 1 with fail
 rw [← hW]
 clear hW
 have hp3 := hp W HB
 go_wp2_with fail
 refine (HVl.out _ (by first | exact HB | exact ba1 HB | exact ba2 HB | exact ba3 HB)).mono ?_
 rintro e w1 ⟨rfl, hbN⟩
 replace HB := below_step (by first | exact HB | exact ba1 HB | exact ba2 HB | exact ba3 HB) hbN
 clear hbN
 clear hp3
 have hp3 := hp _ HB
 have hq3 := hq _ HB
 have HB1 := hi_ HB
 go_wp2
 clear HB hp3 hq3
 go_loopw [8, 20] (fun _ iv wr => ∃ k : Nat, k ≤ kl.length ∧ iv = .int .i64 k ∧ Hid (∀ j (hj : j < kl.length), j < k → kl[j] ≠ n) ∧ Below W.heap.size W wr) (fun _ i _ => kl.length - (intOf i).toNat)
 case atStart => exact ⟨0, Nat.zero_le _, rfl, hi_ (fun j _ h => absurd h (Nat.not_lt_zero _)), HB1.out⟩
 case round =>
  obtain ⟨k, hk, rfl, HN, HB⟩ := hrel
  by_cases hlt : k < kl.length
  ·
   obtain ⟨g2, of2, hA2, d0⟩ := icell_at (HK.out.below HB (Nat.le_refl _)) hlt
   have HY : Hid (kl[k] = n → decide (n ∈ kl) = true) := hi_ (fun e => decide_eq_true (e ▸ List.getElem_mem hlt))
   have HZ : Hid (kl[k] ≠ n → ∀ j (hj : j < kl.length), j < k + 1 → kl[j] ≠ n) := hi_ (fun hne => pre_ne (f := fun _ (a : Int) => a ≠ n) HN.out hne)
   simp only at hA2 d0
   subst hA2
   generalize kl[k] = y at *
   by_cases hy : y = n
   ·
    have HY2 := hi_ (HY.out hy)
    subst hy
    go_wp2
    go_ret
    exact ⟨by rw [HY2.out]; rfl, below_step HW.out HB⟩
   ·
    have HZ2 := hi_ (HZ.out hy)
    have hy' : (y == n) = false := bf_ hy
    clear hy HY HZ
    go_wp2
    go_roundw
    case rel => exact ⟨k + 1, by omega, by go_num, HZ2, HB⟩
    case measure => simp [intOf]; omega
  ·
   have e : k = kl.length := by omega
   have HR2 : Hid (decide (n ∈ kl) = false) := hi_ (by
    rw [decide_eq_false_iff_not]
    intro hm
    obtain ⟨j, hj, e2⟩ := List.mem_iff_getElem.1 hm
    exact HN.out j hj (by omega) e2)
   go_wp2
   go_ret
   exact ⟨by rw [HR2.out]; rfl, below_step HW.out HB⟩
theorem rnext_any (p : ProgD) (s : Nat) (n : Int) (w : World) :
  Calls Tryz.prog 238 #[.agg (progCells p), .int .i64 s, .int .i64 n] w fun e w' => e = .returned (.bool (leadsM p s n)) ∧ Below w.heap.size w w' := by
 by_cases h1 : n = -1
 ·
  subst h1
  have HR := hi_ (show leadsM p s (-1) = true by simp [leadsM])
  go_enter Tryz.func238, Tryz.ntmps238
  go_wp2
  go_ret
  exact ⟨by rw [HR.out]; rfl, below1 _ _⟩
 by_cases h2 : n = -2
 ·
  subst h2
  have HR := hi_ (show leadsM p s (-2) = true by simp [leadsM])
  go_enter Tryz.func238, Tryz.ntmps238
  go_wp2
  go_ret
  exact ⟨by rw [HR.out]; rfl, below1 _ _⟩
 have k1 : (n == -1) = false := bf_ h1
 have k2 : (n == -2) = false := bf_ h2
 have hc : n ≤ s ∨ ((s : Int) < n ∧ n < p.states.l.length) ∨ ((s : Int) < n ∧ (p.states.l.length : Int) ≤ n) := by omega
 rcases hc with h3 | ⟨h3, h4⟩ | ⟨h3, h4⟩
 ·
  have HR := hi_ (show leadsM p s n = false by simp [leadsM, h1, h2]; omega)
  clear h1 h2
  go_enter Tryz.func238, Tryz.ntmps238
  go_wp2
  go_ret
  exact ⟨by rw [HR.out]; rfl, below1 _ _⟩
 ·
  have HR := hi_ (show leadsM p s n = true by simp [leadsM, h1, h2]; omega)
  clear h1 h2
  go_enter Tryz.func238, Tryz.ntmps238
  go_wp2
  go_ret
  exact ⟨by rw [HR.out]; rfl, below1 _ _⟩
 ·
  have HR := hi_ (show leadsM p s n = false by simp [leadsM, h1, h2]; omega)
  clear h1 h2
  go_enter Tryz.func238, Tryz.ntmps238
  go_wp2
  go_ret
  exact ⟨ret_bool (by rw [HR.out]; exact decide_eq_false (by omega)), below1 _ _⟩
theorem widthAt_okW {p : ProgD} {h f : Int} (hn : widthAt p h f ≠ 0) : okW (widthAt p h f) = true := by
 rw [widthAt_decl] at hn ⊢
 rcases hd : declF p h f with _ | y
 · rw [hd] at hn; exact absurd rfl hn
 ·
  rw [hd] at hn
  simp only at hn ⊢
  cases ho : okW y.width
  · rw [ho] at hn; exact absurd rfl hn
  · rw [if_pos rfl]; exact ho
def casesM (p : ProgD) (i : Nat) (w : Int) (l : List CaseD) : Int × Int := match firstE l.length (caseAtM p i w l) with
 | some r => r
 | none => (-1, 0)
theorem within_and (a b : Int) (ha : (Lit.int .u32 a).wf = true) (hb : (Lit.int .u32 b).wf = true) : (bits .and .u32 a b == a) = within a b := by
 obtain ⟨x, rfl, lx⟩ := wf_u32 ha
 obtain ⟨y, rfl, ly⟩ := wf_u32 hb
 rw [bits_and_u32 x y lx ly, within, Bool.eq_iff_iff, beq_iff_eq, decide_eq_true_iff, Int.toNat_natCast, Int.toNat_natCast]
 omega
theorem caseM_eq (p : ProgD) (i : Nat) (n : Int) (c : CaseD) : caseM p i n c =
 if fitsM c.value n = false ∨ fitsM c.mask n = false then 9 else if within c.value c.mask = false then 5 else if leadsM p i c.next = false then 14 else 0 := rfl
theorem rcases_any (p : ProgD) (i : Nat) (hi : i < p.states.l.length) (w : World) (o : ProgOk w p) (hc : ∀ c ∈ p.states.l[i].cases.l, (Lit.int .u32 c.value).wf = true ∧ (Lit.int .u32 c.mask).wf = true)
  (hz : p.states.l[i].cases.l = [] ∨ widthAt p p.states.l[i].oh p.states.l[i].of ≠ 0) :
  Calls Tryz.prog 237 #[.agg (progCells p), .int .i64 i] w fun e w' => e = .returned (.tuple #[.int .i64 (casesM p i (widthAt p p.states.l[i].oh p.states.l[i].of) p.states.l[i].cases.l).1, .int .i64 (casesM p i (widthAt p p.states.l[i].oh p.states.l[i].of) p.states.l[i].cases.l).2]) ∧ Below w.heap.size w w' := by
 have HO := hi_ o
 have HC := hi_ hc
 obtain ⟨W, hW, hw, HB, hp⟩ := box1 w (progCells p) 31
 have HW := hi_ hw
 have HA : Hid (StateOk W p.states.l[i]) := hi_ ((o.state _ (List.getElem_mem hi)).below hw)
 have HZ := hi_ hz
 obtain ⟨g, of, hA, hq⟩ := StateD.atA (o.states.below hw (Nat.le_refl _)) hi
 have hn1 : (i : Int) < (p.states.l.length : Int) := by omega
 clear o hw hc hz
 generalize p.states.l[i] = s at *
 obtain ⟨sn, ⟨xl, xA, xc⟩, sel, oh, sf, ⟨cl, cA, cc⟩, df⟩ := s
 simp only at hq HC HZ ⊢
 have HR := hi_ (casesM.eq_1 p i (widthAt p oh sf) cl)
 have HAA := hi_ hA
 simp only [progCells, hA] at hp hW ⊢
 clear hA
 have HK := hi_ HA.out.cases
 simp only at HK
 have hm2 := HK.out.1
 unfold maxLen at hm2
 simp only at hm2
 have HS := hi_ (caseAtM_at p i (widthAt p oh sf) cl)
 have HWl := hi_ (widthAt_le p oh sf)
 have HOkW := hi_ (widthAt_okW (p := p) (h := oh) (f := sf))
 generalize hwa : widthAt p oh sf = wa at *
 have HWa := hi_ hwa
 clear hwa
 go_enter Tryz.func237, Tryz.ntmps237
 go_upto_region 1 with fail
 rw [← hW]
 clear hW
 refine Exists.elim (box1 W #[.string sn, .slice xA xl.length xc, .bool sel, .int .i64 oh, .int .i64 sf, .slice cA cl.length cc, .int .i64 df] 64) ?_
 rintro U ⟨hU, hu, hUU, hcx⟩
 go_upto_region 2 with fail
 rw [← hU]
 clear hU
 have HU := hi_ hu
 have hp2 := fun w' h => hp w' (below_step hu h)
 replace HB := hUU
 clear hp hUU hu hq
 go_wp2_with fail
 have hCN := rwidth12_any p oh sf U (HO.out.below (below_step HW.out (below_step HU.out HB)))
 simp only [progCells, HAA.out, HWa.out] at hCN
 refine hCN.mono ?_
 clear hCN
 rintro e w1 ⟨rfl, hbN⟩
 replace HB := below_step (by first | exact HB | exact ba1 HB | exact ba2 HB | exact ba3 HB) hbN
 clear hbN
 have HB0 := hi_ HB
 go_wp2
 clear HB
 go_loopw [8, 9] (fun iv _ wr => ∃ k : Nat, k ≤ cl.length ∧ iv = .int .i64 k ∧ (∀ j, j < k → caseAtM p i wa cl j = none) ∧ Below U.heap.size U wr) (fun i _ _ => cl.length - (intOf i).toNat)
 case atStart => exact ⟨0, Nat.zero_le _, rfl, fun j h => absurd h (Nat.not_lt_zero _), HB0.out⟩
 case round =>
  obtain ⟨k, hk, rfl, hpre, HB⟩ := hrel
  have HPre := hi_ hpre
  clear hpre
  by_cases hlt : k < cl.length
  ·
   obtain ⟨g2, of2, hA, d0, d1, d2⟩ := CaseD.at (HK.out.below (below_step HU.out HB) (Nat.le_refl _)) hlt
   have HWF := hi_ (HC.out _ (List.getElem_mem hlt))
   have HCE := hi_ ((HS.out k hlt))
   have hok : okW wa = true := by
    rcases HZ.out with h | h
    · rw [h] at hlt; exact absurd hlt (Nat.not_lt_zero _)
    · exact HOkW.out h
   have HOk := hi_ hok
   clear hok
   simp only at hA d0 d1 d2
   subst hA
   generalize cl[k] = c at *
   obtain ⟨cv, cm, cn⟩ := c
   simp only at d0 d1 d2 HWF
   obtain ⟨m, hm⟩ : ∃ m : Nat, wa = m := ⟨wa.toNat, by have := HWl.out; omega⟩
   subst hm
   have hm32 : Hid (m ≤ 32) := hi_ (by have := HWl.out; omega)
   have HF1 : Hid (fitsM cv m = decide (cv < ((2 ^ m : Nat) : Int))) := hi_ (by have := fits12_eq (v := cv) HOk.out; rwa [Int.toNat_natCast] at this)
   have HF2 : Hid (fitsM cm m = decide (cm < ((2 ^ m : Nat) : Int))) := hi_ (by have := fits12_eq (v := cm) HOk.out; rwa [Int.toNat_natCast] at this)
   have HCM := hi_ (caseM_eq p i m ⟨cv, cm, cn⟩)
   have hwi := within_and cv cm HWF.out.1 HWF.out.2
   simp only at HCM
   have hp3 := hp2 wr HB
   have hca := @World.cell?_alloc_some
   have hcx3 := hcx wr HB
   go_wp2_with fail
   refine (rfits12_any cv m hm32.out HWF.out.1 _).mono ?_
   rintro e w' ⟨rfl, rfl⟩
   rw [← HF1.out]
   have HBa := hi_ (below_alloc HB (.cells (caseCells ⟨cv, cm, cn⟩) 257))
   cases hf1 : fitsM cv m
   ·
    have HE2 := hi_ (HCE.out.trans (show _ = some ((k : Int), (9 : Int)) by rw [show caseM p i m ⟨cv, cm, cn⟩ = 9 from HCM.out.trans (if_pos (.inl hf1))]; exact if_pos (by decide)))
    have HR2 := hi_ (HR.out.trans (show _ = ((k : Int), (9 : Int)) by rw [firstE_some hlt HPre.out HE2.out]))
    go_wp2
    go_ret2
    exact ⟨ret_pp HR2.out, below_step HW.out (below_step HU.out HBa.out)⟩
   go_wp2_with fail
   refine (rfits12_any cm m hm32.out HWF.out.2 _).mono ?_
   rintro e w' ⟨rfl, rfl⟩
   rw [← HF2.out]
   cases hf2 : fitsM cm m
   ·
    have HE2 := hi_ (HCE.out.trans (show _ = some ((k : Int), (9 : Int)) by rw [show caseM p i m ⟨cv, cm, cn⟩ = 9 from HCM.out.trans (if_pos (.inr hf2))]; exact if_pos (by decide)))
    have HR2 := hi_ (HR.out.trans (show _ = ((k : Int), (9 : Int)) by rw [firstE_some hlt HPre.out HE2.out]))
    go_wp2
    go_ret2
    exact ⟨ret_pp HR2.out, below_step HW.out (below_step HU.out HBa.out)⟩
   replace HCM := tr_ HCM (if_neg (by rw [hf1, hf2]; simp))
   cases hwt : within cv cm
   ·
    have HE2 := hi_ (HCE.out.trans (show _ = some ((k : Int), (5 : Int)) by rw [show caseM p i m ⟨cv, cm, cn⟩ = 5 from HCM.out.trans (if_pos hwt)]; exact if_pos (by decide)))
    have HR2 := hi_ (HR.out.trans (show _ = ((k : Int), (5 : Int)) by rw [firstE_some hlt HPre.out HE2.out]))
    rw [hwt] at hwi
    go_wp2
    go_ret2
    exact ⟨ret_pp HR2.out, below_step HW.out (below_step HU.out HBa.out)⟩
   replace HCM := tr_ HCM (if_neg (by rw [hwt]; simp))
   rw [hwt] at hwi
   replace HB := HBa.out
   clear HBa
   go_wp2_with fail
   have hCN := rnext_any p i cn (wr.alloc (.cells (caseCells ⟨cv, cm, cn⟩) 257))
   simp only [progCells, HAA.out] at hCN
   refine hCN.mono ?_
   clear hCN
   rintro e w4 ⟨rfl, hbN⟩
   replace HB := below_step (by first | exact HB | exact ba1 HB | exact ba2 HB | exact ba3 HB) hbN
   clear hbN
   cases hl : leadsM p i cn
   ·
    have HE2 := hi_ (HCE.out.trans (show _ = some ((k : Int), (14 : Int)) by rw [show caseM p i m ⟨cv, cm, cn⟩ = 14 from HCM.out.trans (if_pos hl)]; exact if_pos (by decide)))
    have HR2 := hi_ (HR.out.trans (show _ = ((k : Int), (14 : Int)) by rw [firstE_some hlt HPre.out HE2.out]))
    go_wp2
    go_ret2
    exact ⟨ret_pp HR2.out, below_step HW.out (below_step HU.out HB)⟩
   ·
    have HE2 := hi_ (HCE.out.trans (show _ = none by rw [show caseM p i m ⟨cv, cm, cn⟩ = 0 from HCM.out.trans (if_neg (by rw [hl]; simp))]; exact if_neg (by decide)))
    go_wp2
    go_roundw
    case rel => exact ⟨k + 1, by omega, by go_num, firstE_step HPre.out HE2.out, HB⟩
    case measure => simp [intOf]; omega
  ·
   have e : k = cl.length := by omega
   have HR2 := hi_ (HR.out.trans (show _ = ((-1 : Int), (0 : Int)) by rw [firstE_none (by rw [← e]; exact HPre.out)]))
   have hcx3 := hcx wr HB
   go_wp2
   go_ret2
   exact ⟨ret_pp HR2.out, below_step HW.out (below_step HU.out HB)⟩
def stM (p : ProgD) (i : Nat) (s : StateD) : Int × Int := if ident s.name = false then (-1, 6) else if dupB (p.states.l.map StateD.name) i = true then (-1, 7) else stateM p i s
theorem casesM_bad {p : ProgD} {i : Nat} {w : Int} {l : List CaseD} {r : Int × Int} (h : casesM p i w l = r) (hn : r.2 ≠ 0) : firstE l.length (caseAtM p i w l) = some r := by
 unfold casesM at h
 rcases hf : firstE l.length (caseAtM p i w l) with _ | x
 · rw [hf] at h; subst h; exact absurd rfl hn
 · rw [hf] at h; subst h; rfl
theorem casesM_ok {p : ProgD} {i : Nat} {w : Int} {l : List CaseD} {r : Int × Int} (h : casesM p i w l = r) (hn : r.2 = 0) : firstE l.length (caseAtM p i w l) = none := by
 unfold casesM at h
 rcases hf : firstE l.length (caseAtM p i w l) with _ | x
 · rfl
 ·
  rw [hf] at h
  subst h
  obtain ⟨k, hk, h2, _⟩ := firstE_ex hf
  rw [caseAtM_at p i w l k hk] at h2
  by_cases hc : caseM p i w l[k] ≠ 0
  ·
   rw [if_pos hc] at h2
   cases h2
   exact absurd hn hc
  · rw [if_neg hc] at h2; cases h2
theorem rstate_any (p : ProgD) (i : Nat) (hi : i < p.states.l.length) (w : World) (o : ProgOk w p) (hc : ∀ c ∈ p.states.l[i].cases.l, (Lit.int .u32 c.value).wf = true ∧ (Lit.int .u32 c.mask).wf = true) :
  Calls Tryz.prog 182 #[.agg (progCells p), .int .i64 i] w fun e w' => e = .returned (.tuple #[.int .i64 (stM p i p.states.l[i]).1, .int .i64 (stM p i p.states.l[i]).2]) ∧ Below w.heap.size w w' := by
 have HO := hi_ o
 have HCs := hi_ (fun u (ou : ProgOk u p) hz => rcases_any p i hi u ou hc hz)
 obtain ⟨W, hW, hw, HB, hp⟩ := box1 w (progCells p) 31
 have HW := hi_ hw
 have HA : Hid (StateOk W p.states.l[i]) := hi_ ((o.state _ (List.getElem_mem hi)).below hw)
 have HR0 := hi_ (stM.eq_1 p i p.states.l[i])
 have HRs := hi_ (stateM_eq p i p.states.l[i])
 have HD := hi_ (dup_tells (f := StateD.name) hi)
 obtain ⟨g, of, hA, hall⟩ := StateD.allA (o.states.below hw (Nat.le_refl _)) (show 0 < p.states.l.length by omega)
 have HAL := hi_ hall
 have hq := fun w' h => hall w' h i hi
 have hn1 : (i : Int) < (p.states.l.length : Int) := by omega
 have hn2 : p.states.l.length ≤ 9223372036854775807 := o.states.1
 clear o hw hc hall
 generalize p.states.l[i] = s at *
 obtain ⟨sn, ⟨xl, xA, xc⟩, sel, oh, sf, ⟨cl, cA, cc⟩, df⟩ := s
 simp only at HR0 HRs hq HCs HD
 have HAA := hi_ hA
 simp only [progCells, hA] at hp hW ⊢
 clear hA
 have HX := hi_ HA.out.extract
 have HK := hi_ HA.out.cases
 have HNm : Hid (sn.size ≤ maxLen) := hi_ HA.out.name
 simp only at HX HK
 have hm1 := HX.out.1
 have hm2 := HK.out.1
 unfold maxLen at hm1 hm2
 simp only at hm1 hm2
 go_enter Tryz.func182, Tryz.ntmps182
 go_upto_region 1 with fail
 rw [← hW]
 clear hW
 refine Exists.elim (box1 W #[.string sn, .slice xA xl.length xc, .bool sel, .int .i64 oh, .int .i64 sf, .slice cA cl.length cc, .int .i64 df] 64) ?_
 rintro U ⟨hU, hu, hUU, hcx⟩
 go_upto_region 2 with fail
 rw [← hU]
 clear hU
 have HU := hi_ hu
 have hp2 := fun w' h => hp w' (below_step hu h)
 replace HB := hUU
 have HUU := hi_ hUU
 clear hp hUU hu hq
 go_wp2_with fail
 refine (risIdent_any sn _ HNm.out).mono ?_
 rintro e w' ⟨rfl, rfl⟩
 cases h1 : identM sn.data.toList
 ·
  have HR := tr_ HR0 (if_pos (show ident sn = false from h1))
  go_wp2
  go_ret2
  exact ⟨ret_pp HR.out, below_step HW.out (below_step HU.out HB)⟩
 replace HR0 := tr_ HR0 (if_neg (show ¬ ident sn = false by rw [show ident sn = true from h1]; simp))
 clear h1
 go_wp2
 clear HB
 go_loopw [7] (fun iv wr => ∃ k : Nat, k ≤ i ∧ iv = .int .i64 k ∧ Hid (∀ j (hj : j < p.states.l.length), j < k → p.states.l[j].name ≠ sn) ∧ Below U.heap.size U wr) (fun k _ => i - (intOf k).toNat)
 case atStart => exact ⟨0, Nat.zero_le _, rfl, hi_ (fun j _ hj => absurd hj (Nat.not_lt_zero _)), HUU.out⟩
 case round =>
 obtain ⟨k, hk, rfl, HN, HB⟩ := hrel
 have hcx3 := hcx wr HB
 have hp3 := hp2 wr HB
 by_cases hki : k < i
 ·
  have hkl : k < p.states.l.length := by omega
  have hkl' : (k : Int) < (p.states.l.length : Int) := by omega
  obtain ⟨e0, _⟩ := HAL.out wr (below_step HU.out HB) k hkl
  have HY : Hid (p.states.l[k].name = sn → dupB (p.states.l.map StateD.name) i = true) := hi_ (fun e => HD.out.1 k hkl hki e)
  have HZ : Hid (p.states.l[k].name ≠ sn → ∀ j (hj : j < p.states.l.length), j < k + 1 → p.states.l[j].name ≠ sn) := hi_ (fun hne => pre_ne (f := fun _ (a : StateD) => a.name ≠ sn) HN.out hne)
  generalize p.states.l[k].name = t at *
  by_cases ht : t = sn
  ·
   have HR := tr_ HR0 (if_pos (HY.out ht))
   have ht' := toList_true ht
   clear ht HY HZ
   go_wp2
   go_quiet (fail)
   go_wp2
   go_ret2
   exact ⟨ret_pp HR.out, below_step HW.out (below_step HU.out (below_drewN HB _))⟩
  ·
   have HZ2 := hi_ (HZ.out ht)
   have ht' := toList_false ht
   clear ht HY HZ
   go_wp2
   go_quiet (fail)
   go_wp2
   go_roundw
   case rel => exact ⟨k + 1, by omega, by go_num, HZ2, below_drewN HB _⟩
   case measure => simp [intOf]; omega
 have hki' : k = i := by omega
 subst hki'
 have HR1 := tr_ HR0 (if_neg (by rw [HD.out.2 HN.out]; simp))
 have HR := hi_ (HR1.out.trans HRs.out)
 clear HR0 HR1 HRs HD HN hk hki
 by_cases h2 : 4 < xl.length ∨ 8 < cl.length
 ·
  replace HR := tr_ HR (if_pos h2)
  have h2' : 4 < xl.length ∨ (xl.length ≤ 4 ∧ 8 < cl.length) := by omega
  rcases h2' with h2 | ⟨h2, h3⟩
  all_goals
   go_wp2
   go_ret2
   exact ⟨ret_pp HR.out, below_step HW.out (below_step HU.out HB)⟩
 replace HR := tr_ HR (if_neg h2)
 have h3 : xl.length ≤ 4 := by omega
 have h4 : cl.length ≤ 8 := by omega
 clear h2
 have HBr := hi_ HB
 go_wp2
 clear HB hcx3 hp3
 go_loopw [8] (fun iv wr => ∃ m : Nat, m ≤ xl.length ∧ iv = .int .i64 m ∧ (∀ j (hj : j < xl.length), j < m → badH p xl[j] = false) ∧ Below U.heap.size U wr) (fun i _ => xl.length - (intOf i).toNat)
 case atStart => exact ⟨0, Nat.zero_le _, rfl, fun j _ h => absurd h (Nat.not_lt_zero _), HBr.out⟩
 case round =>
 clear HBr
 obtain ⟨m, hm, rfl, hpre, HB⟩ := hrel
 have HPre := hi_ hpre
 clear hpre
 have hcx3 := hcx _ HB
 have hp3 := hp2 _ HB
 by_cases hlt : m < xl.length
 ·
  obtain ⟨g2, of2, hA, d0⟩ := icell_at (HX.out.below (below_step HU.out HB) (Nat.le_refl _)) hlt
  have HE := hi_ (any_yes (f := badH p) hlt)
  have HN : Hid (badH p xl[m] = false → ∀ j (hj : j < xl.length), j < m + 1 → badH p xl[j] = false) := hi_ (fun hf j hj h => by
   rcases Nat.lt_succ_iff_lt_or_eq.1 h with h1 | rfl
   · exact HPre.out j hj h1
   · exact hf)
  have hm1' : (m : Int) < (xl.length : Int) := by omega
  simp only at hA d0
  subst hA
  generalize xl[m] = x at *
  have hcase : x < 0 ∨ (0 ≤ x ∧ (p.headers.l.length : Int) ≤ x) ∨ (0 ≤ x ∧ x < (p.headers.l.length : Int)) := by omega
  rcases hcase with h1 | ⟨h1, h2⟩ | ⟨h1, h2⟩
  ·
   have HR2 := tr_ HR (if_pos (HE.out (by simp [badH, h1])))
   have b1 : decide (x < 0) = true := decide_eq_true h1
   go_wp2
   go_quiet (fail)
   go_wp2
   go_ret2
   exact ⟨ret_pp HR2.out, below_step HW.out (below_step HU.out (below_drewN HB _))⟩
  ·
   have HR2 := tr_ HR (if_pos (HE.out (by simp [badH, h2])))
   have b1 : decide (x < 0) = false := decide_eq_false (by omega)
   go_wp2
   go_quiet (fail)
   go_wp2
   go_ret2
   exact ⟨ret_pp HR2.out, below_step HW.out (below_step HU.out (below_drewN HB _))⟩
  ·
   have HN2 := hi_ (HN.out (by simp [badH]; omega))
   have b1 : decide (x < 0) = false := decide_eq_false (by omega)
   go_wp2
   go_quiet (fail)
   go_wp2
   go_roundw
   case rel => exact ⟨m + 1, by omega, by go_num, HN2.out, below_drewN HB _⟩
   case measure => simp [intOf]; omega
 have e : m = xl.length := by omega
 have hno : Hid (¬ xl.any (badH p) = true) := hi_ (by rw [any_no (fun j hj => HPre.out j hj (by omega))]; simp)
 clear hlt
 replace HR := tr_ HR (if_neg hno.out)
 have hkx : ¬ ((m : Int) < (xl.length : Int)) := by omega
 subst e
 clear HPre hm
 cases sel
 ·
  replace HR := tr_ HR (if_neg (by simp))
  by_cases h5 : 0 < cl.length
  ·
   replace HR := tr_ HR (if_pos (by simp [h5]))
   go_wp2
   go_ret2
   exact ⟨ret_pp HR.out, below_step HW.out (below_step HU.out HB)⟩
  ·
   replace HR := tr_ HR (if_neg (fun h => h5 h.2))
   have h6 : cl.length = 0 := by omega
   have h6' : cl = [] := List.length_eq_zero_iff.1 h6
   have HR2 := hi_ (HR.out.trans (show _ = (if leadsM p k df = false then ((-1 : Int), (14 : Int)) else (0, 0)) by rw [h6]; rfl))
   have HC0 : Hid (casesM p k (widthAt p oh sf) cl = (-1, 0)) := hi_ (by rw [h6']; rfl)
   have HCk := hi_ (fun u ou => HCs.out u ou (.inl h6'))
   have h7 : ¬ (0 : Int) < (cl.length : Int) := by omega
   have h8 : (cl.length : Int) ≤ 0 := by omega
   clear h5 h6 h6'
   go_wp2_with fail
   have hCN := HCk.out _ (HO.out.below (below_step HW.out (below_step HU.out (by first | exact HB | exact ba1 HB | exact ba2 HB | exact ba3 HB))))
   simp only [progCells, HAA.out, HC0.out] at hCN
   refine hCN.mono ?_
   clear hCN
   rintro e w3 ⟨rfl, hbN⟩
   replace HB := below_step (by first | exact HB | exact ba1 HB | exact ba2 HB | exact ba3 HB) hbN
   clear hbN
   have hcx3 := hcx _ HB
   have hp3 := hp2 _ HB
   go_wp2_with fail
   have hCN := rnext_any p k df w3
   simp only [progCells, HAA.out] at hCN
   refine hCN.mono ?_
   clear hCN
   rintro e w4 ⟨rfl, hbN⟩
   replace HB := below_step (by first | exact HB | exact ba1 HB | exact ba2 HB | exact ba3 HB) hbN
   clear hbN
   cases h4 : leadsM p k df
   ·
    replace HR2 := tr_ HR2 (if_pos h4)
    go_wp2
    go_ret2
    exact ⟨ret_pp HR2.out, below_step HW.out (below_step HU.out HB)⟩
   ·
    replace HR2 := tr_ HR2 (if_neg (by rw [h4]; simp))
    go_wp2
    go_ret2
    exact ⟨ret_pp HR2.out, below_step HW.out (below_step HU.out HB)⟩
 ·
  go_wp2_with fail
  have hCN := rwidth12_any p oh sf _ (HO.out.below (below_step HW.out (below_step HU.out (by first | exact HB | exact ba1 HB | exact ba2 HB | exact ba3 HB))))
  simp only [progCells, HAA.out] at hCN
  refine hCN.mono ?_
  clear hCN
  rintro e w1 ⟨rfl, hbN⟩
  replace HB := below_step (by first | exact HB | exact ba1 HB | exact ba2 HB | exact ba3 HB) hbN
  clear hbN
  by_cases h5 : widthAt p oh sf = 0
  ·
   replace HR := tr_ HR (if_pos (by simp [h5]))
   have h5' : (widthAt p oh sf == 0) = true := beq_iff_eq.2 h5
   clear h5
   go_wp2
   go_ret2
   exact ⟨ret_pp HR.out, below_step HW.out (below_step HU.out HB)⟩
  replace HR := hi_ (HR.out.trans ((if_neg (fun h => h5 h.2)).trans (if_neg (by simp))))
  have h5' : (widthAt p oh sf == 0) = false := bf_ h5
  have HCk := hi_ (fun u ou => HCs.out u ou (.inr h5))
  clear h5 hcx3 hp3
  have hcx3 := hcx _ HB
  have hp3 := hp2 _ HB
  have HBd := hi_ (fun r => casesM_bad (p := p) (i := k) (w := widthAt p oh sf) (l := cl) (r := r))
  have HGd := hi_ (fun r => casesM_ok (p := p) (i := k) (w := widthAt p oh sf) (l := cl) (r := r))
  go_wp2_with fail
  have hCN := HCk.out w1 (HO.out.below (below_step HW.out (below_step HU.out (by first | exact HB | exact ba1 HB | exact ba2 HB | exact ba3 HB))))
  simp only [progCells, HAA.out] at hCN
  refine hCN.mono ?_
  clear hCN
  rintro e w3 ⟨rfl, hbN⟩
  replace HB := below_step (by first | exact HB | exact ba1 HB | exact ba2 HB | exact ba3 HB) hbN
  clear hbN
  generalize casesM p k (widthAt p oh sf) cl = r at *
  have HBd2 := hi_ (HBd.out r rfl)
  have HGd2 := hi_ (HGd.out r rfl)
  clear HBd HGd hcx3 hp3
  have hcx3 := hcx _ HB
  have hp3 := hp2 _ HB
  obtain ⟨ra, rc⟩ := r
  by_cases k1 : rc = 0
  ·
   subst k1
   have HR2 := hi_ (HR.out.trans (show _ = (if leadsM p k df = false then ((-1 : Int), (14 : Int)) else (0, 0)) by rw [HGd2.out rfl]))
   go_wp2_with fail
   have hCN := rnext_any p k df w3
   simp only [progCells, HAA.out] at hCN
   refine hCN.mono ?_
   clear hCN
   rintro e w4 ⟨rfl, hbN⟩
   replace HB := below_step (by first | exact HB | exact ba1 HB | exact ba2 HB | exact ba3 HB) hbN
   clear hbN
   cases h4 : leadsM p k df
   ·
    replace HR2 := tr_ HR2 (if_pos h4)
    go_wp2
    go_ret2
    exact ⟨ret_pp HR2.out, below_step HW.out (below_step HU.out HB)⟩
   ·
    replace HR2 := tr_ HR2 (if_neg (by rw [h4]; simp))
    go_wp2
    go_ret2
    exact ⟨ret_pp HR2.out, below_step HW.out (below_step HU.out HB)⟩
  ·
   have HR2 := hi_ (HR.out.trans (show _ = (ra, rc) by rw [HBd2.out k1]))
   have k1' : (rc == 0) = false := bf_ k1
   clear k1
   go_wp2
   go_ret2
   exact ⟨ret_pp HR2.out, below_step HW.out (below_step HU.out HB)⟩
theorem stateAt_stM (p : ProgD) (k : Nat) (h : k < p.states.l.length) : stateAtM p k = if (stM p k p.states.l[k]).2 ≠ 0 then some ((k : Int), (stM p k p.states.l[k]).1, (stM p k p.states.l[k]).2) else none := by
 rw [stateAtM_at p k h, stM]
 by_cases h1 : ident p.states.l[k].name = false
 · rw [if_pos h1, if_pos h1]; rfl
 ·
  rw [if_neg h1, if_neg h1]
  by_cases h2 : dupB (p.states.l.map StateD.name) k = true
  · rw [if_pos h2, if_pos h2]; rfl
  · rw [if_neg h2, if_neg h2]
end Go.Proofs.YtofjapcgbajmiaaGreatDoor
