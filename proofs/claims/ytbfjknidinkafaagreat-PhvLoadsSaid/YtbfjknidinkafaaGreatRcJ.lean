/- The walks of the reference's check of a table: index, keys, actions, Check. No condition but that the program lies in memory and its numbers are of their kinds. -/
import Derived.Test.YtbfjknidinkafaaGreatRcI
import Derived.Test.YtbfjknidinkafaaGreatRcC
import Derived.Test.YtbfjknidinkafaaGreatCkO
namespace Go.Proofs.YtbfjknidinkafaaGreat
open Go.RowKit

theorem firstE_ex {α : Type} {f : Nat → Option α} {r : α} : ∀ {n : Nat}, firstE n f = some r → ∃ i, i < n ∧ f i = some r ∧ ∀ j, j < i → f j = none
  | 0, h => by cases h
  | n + 1, h => by
    rw [firstE] at h
    rcases hf : firstE n f with _ | x
    · rw [hf] at h
      exact ⟨n, by omega, h, firstE_inv hf⟩
    · rw [hf] at h
      simp only [Option.some.injEq] at h
      subst h
      obtain ⟨i, h1, h2, h3⟩ := firstE_ex hf
      exact ⟨i, by omega, h2, h3⟩
/-- the first place of a number, or -1 -/
def idxAt (l : List Int) (n : Int) (k : Nat) : Option Int := match l[k]? with
  | none => none
  | some x => if x = n then some (k : Int) else none
def idxM (l : List Int) (n : Int) : Int := match firstE l.length (idxAt l n) with
  | some r => r
  | none => -1
theorem idxAt_at (l : List Int) (n : Int) (k : Nat) (h : k < l.length) : idxAt l n k = if l[k] = n then some (k : Int) else none := by
  rw [idxAt, List.getElem?_eq_getElem h]
theorem idxM_cases (l : List Int) (n : Int) : (idxM l n = -1 ∧ n ∉ l) ∨ ∃ k : Nat, ∃ h : k < l.length, idxM l n = k ∧ l[k] = n ∧ ∀ j (hj : j < l.length), j < k → l[j] ≠ n := by
  unfold idxM
  rcases hf : firstE l.length (idxAt l n) with _ | r
  · refine .inl ⟨rfl, fun hm => ?_⟩
    obtain ⟨k, hk, e⟩ := List.mem_iff_getElem.1 hm
    have h := firstE_inv hf k hk
    rw [idxAt_at l n k hk, if_pos e] at h
    cases h
  · obtain ⟨k, hk, h2, h3⟩ := firstE_ex hf
    rw [idxAt_at l n k hk] at h2
    by_cases e : l[k] = n
    · rw [if_pos e] at h2
      cases h2
      refine .inr ⟨k, hk, rfl, e, fun j hj hjk e2 => ?_⟩
      have h := h3 j hjk
      rw [idxAt_at l n j hj, if_pos e2] at h
      cases h
    · rw [if_neg e] at h2; cases h2
theorem idxM_neg {l : List Int} {n : Int} : idxM l n < 0 ↔ n ∉ l := by
  rcases idxM_cases l n with ⟨h1, h2⟩ | ⟨k, hk, h1, h2, _⟩
  · exact ⟨fun _ => h2, fun _ => by omega⟩
  · exact ⟨fun h => by omega, fun h => absurd (h2 ▸ List.getElem_mem hk) h⟩
theorem idxM_lt {l : List Int} {i : Nat} (hi : i < l.length) : idxM l l[i] < (i : Int) ↔ l[i] ∈ l.take i := by
  rw [List.mem_take_iff_getElem]
  rcases idxM_cases l l[i] with ⟨h1, h2⟩ | ⟨k, hk, h1, h2, h3⟩
  · exact absurd (List.getElem_mem hi) h2
  · rw [h1]
    constructor
    · intro h
      exact ⟨k, by omega, h2⟩
    · rintro ⟨j, hj, e⟩
      rcases Nat.lt_or_ge j k with h | h
      · exact absurd e (h3 j (by omega) h)
      · omega
theorem idxM_le (l : List Int) (n : Int) : -1 ≤ idxM l n ∧ idxM l n ≤ (l.length : Int) := by
  rcases idxM_cases l n with ⟨h1, _⟩ | ⟨k, hk, h1, _⟩ <;> omega
set_option maxHeartbeats 4000000 in
theorem rindex_any (x : L Int) (n : Int) (w : World) (h : LOk w 1 icell x) :
    Calls Tryz.prog 187 #[.slice x.A x.l.length x.c, .int .i64 n] w fun e w' => e = .returned (.int .i64 (idxM x.l n)) ∧ w = w' := by
  obtain ⟨l, A0, c0⟩ := x
  have HX := Lib.hid h
  have hmx : l.length ≤ 9223372036854775807 := h.1
  have HR := Lib.hid (idxM.eq_1 l n)
  clear h
  simp only at *
  go_enter Tryz.func187, Tryz.ntmps187
  go_wp2
  go_loopw [5] (fun iv wr => ∃ i : Nat, i ≤ l.length ∧ iv = .int .i64 i ∧ (∀ j, j < i → idxAt l n j = none) ∧ w = wr) (fun i _ => l.length - (intOf i).toNat)
  case atStart => exact ⟨0, Nat.zero_le _, rfl, fun j hj => absurd hj (Nat.not_lt_zero _), rfl⟩
  case round =>
  obtain ⟨i, hi, rfl, hpre, rfl⟩ := hrel
  have HPre := Lib.hid hpre
  clear hpre
  by_cases hlt : i < l.length
  · obtain ⟨g, of, hA, d0⟩ := icell_at HX.out hlt
    have HE := Lib.hid (idxAt_at l n i hlt)
    simp only at hA d0
    subst hA
    generalize l[i] = y at *
    by_cases k1 : y = n
    · have HR2 := Lib.hid (HR.out.trans (show _ = (i : Int) by rw [firstE_some hlt HPre.out (HE.out.trans (if_pos k1))]))
      subst k1
      go_wp2
      go_ret
      exact ⟨by rw [HR2.out]; rfl, rfl⟩
    · have HP2 := Lib.hid (firstE_step HPre.out (HE.out.trans (if_neg k1)))
      have k1' : (y == n) = false := beq_eq_false_iff_ne.2 k1
      clear k1
      go_wp2
      go_roundw
      case rel => exact ⟨i + 1, by omega, by go_num, HP2.out, by trivial⟩
      case measure => simp [intOf]; omega
  · have e : i = l.length := by omega
    subst e
    have HR2 := Lib.hid (HR.out.trans (show _ = (-1 : Int) by rw [firstE_none HPre.out]))
    go_wp2
    go_ret
    exact ⟨by rw [HR2.out]; rfl, rfl⟩

set_option maxRecDepth 100000 in
set_option maxHeartbeats 8000000 in
theorem rkeys_any (p : ProgD) (t : TabD) (w : World) (o : ProgOk w p) (ot : TabOk w t) (h6 : t.keys.l.length ≤ 6) :
    Calls Tryz.prog 147 #[.agg (progCells p), .agg (tabCells t)] w fun e w' => e = .returned (.tuple #[.int .i64 (keysM p t.keys.l).1, .int .i64 (keysM p t.keys.l).2]) ∧ Below w.heap.size w w' := by
  obtain ⟨tn, ⟨kl, kA, kc⟩, ta, td, tg, tz⟩ := t
  have HO := Lib.hid o
  have HK := Lib.hid ot.keys
  simp only at h6 HK
  obtain ⟨W, hW, hw, HB, hp⟩ := box2 w (progCells p) 31 (tabCells ⟨tn, ⟨kl, kA, kc⟩, ta, td, tg, tz⟩) 129
  have HW := Lib.hid hw
  have HW0 := Lib.hid HB
  have HR := Lib.hid (keysM.eq_1 p kl)
  have HS := Lib.hid (keyAtM_at p kl)
  have HT := Lib.hid (take_snoc kl)
  clear o ot hw
  go_enter Tryz.func147, Tryz.ntmps147
  go_upto_region 1 with fail
  rw [← hW]
  clear hW
  go_wp2
  clear HB
  go_loopw [6, 7, 8, 9, 10] (fun bv lv iv _ _ wr => ∃ k : Nat, k ≤ kl.length ∧ iv = .int .i64 k ∧ lv = .int .i64 (lpmM (kl.take k)) ∧ bv = .int .i64 (bitsM p (kl.take k)) ∧ (∀ j, j < k → keyAtM p kl j = none) ∧ Below W.heap.size W wr) (fun _ _ i _ _ _ => kl.length - (intOf i).toNat)
  case atStart => exact ⟨0, Nat.zero_le _, rfl, rfl, rfl, fun j h => absurd h (Nat.not_lt_zero _), HW0.out⟩
  case round =>
    obtain ⟨k, hk, rfl, rfl, rfl, hpre, HB⟩ := hrel
    have HPre := Lib.hid hpre
    clear hpre
    have b1 := lpmM_le (kl.take k)
    have b2 := bitsM_le p (kl.take k)
    rw [List.length_take] at b1 b2
    obtain ⟨b11, b12⟩ := b1
    obtain ⟨b21, b22⟩ := b2
    by_cases hlt : k < kl.length
    · obtain ⟨g, of, hA, hq⟩ := KeyD.atA (HK.out.below (below_step HW.out HB) (Nat.le_refl _)) hlt
      have HE := Lib.hid (HS.out k hlt)
      have HL : Hid (lpmM (kl.take (k + 1)) = lpmM (kl.take k) + if kl[k].kind = 2 then 1 else 0) := Lib.hid (by rw [HT.out k hlt, lpmM_snoc])
      have HBt : Hid (bitsM p (kl.take (k + 1)) = bitsM p (kl.take k) + widthAt p kl[k].h kl[k].f) := Lib.hid (by rw [HT.out k hlt, bitsM_snoc])
      simp only at hA hq
      subst hA
      generalize kl[k] = y at *
      obtain ⟨yh, yf, yk⟩ := y
      simp only at HE HL HBt hq
      generalize lpmM (kl.take k) = lm at *
      generalize bitsM p (kl.take k) = bm at *
      have hp2 := fun w' (h : Below wr.heap.size wr w') => hp w' (below_step HB h)
      have HVV := Lib.hid HB
      have H0 := Lib.hid (Below.refl wr.heap.size wr)
      have hp3 := hp wr HB
      have hn1 : (k : Int) < (kl.length : Int) := by omega
      clear HB hp
      go_wp2
      clear hp3
      go_region_held3 (fun w' => Below wr.heap.size wr w') (first | exact H0.out | exact below_drew H0.out | (exact below_step (by assumption) (by assumption)) | assumption)
        (first | (go_at_call 186; refine (rwidth17_any p yh yf _ (HO.out.below (below_step HW.out (below_step HVV.out (by assumption))))).mono ?_; rintro e w1 ⟨rfl, hb1⟩))
      have HB5 : Hid (Below wr.heap.size wr _) := Lib.hid (by assumption)
      have hq3 := hq _ HB5.out
      have hp3 := hp2 _ HB5.out
      have HB := below_step HVV.out HB5.out
      clear hq hp2
      have hwl := widthAt_le p yh yf
      generalize widthAt p yh yf = wd at *
      obtain ⟨wl1, wl2⟩ := hwl
      by_cases k1 : wd = 0
      · subst k1
        have HE2 := Lib.hid (HE.out.trans (if_pos rfl))
        have HR2 := Lib.hid (HR.out.trans (show _ = ((k : Int), (8 : Int)) by rw [firstE_some hlt HPre.out HE2.out]))
        go_wp2
        go_ret2
        exact ⟨ret_pp HR2.out, below_step HW.out HB⟩
      have k1' : (wd == 0) = false := beq_eq_false_iff_ne.2 k1
      have HE2 := Lib.hid (HE.out.trans (if_neg k1))
      clear k1
      have hw1 : IntKind.i64.wrap (bm + wd) = bm + wd := IntWalk.i64_in _ (by omega)
      by_cases e2 : yk = 2
      · subst e2
        have HE3 := Lib.hid (HE2.out.trans (if_neg (by simp)))
        have HL2 : Hid (lpmM (kl.take (k + 1)) = lm + 1) := Lib.hid (by rw [HL.out, if_pos rfl])
        have hw2 : IntKind.i64.wrap (lm + 1) = lm + 1 := IntWalk.i64_in _ (by omega)
        go_wp2
        go_roundw
        case rel => exact ⟨k + 1, by omega, by go_num, by rw [HL2.out], by rw [HBt.out], firstE_step HPre.out HE3.out, HB⟩
        case measure => simp [intOf]; omega
      have HL2 : Hid (lpmM (kl.take (k + 1)) = lm) := Lib.hid (by rw [HL.out, if_neg e2]; omega)
      have e2' : (yk == 2) = false := beq_eq_false_iff_ne.2 e2
      by_cases e1 : yk = 1
      · subst e1
        have HE3 := Lib.hid (HE2.out.trans (if_neg (by simp)))
        clear e2 e2'
        go_wp2
        go_roundw
        case rel => exact ⟨k + 1, by omega, by go_num, by rw [HL2.out], by rw [HBt.out], firstE_step HPre.out HE3.out, HB⟩
        case measure => simp [intOf]; omega
      have e1' : (yk == 1) = false := beq_eq_false_iff_ne.2 e1
      by_cases e3 : yk = 3
      · subst e3
        have HE3 := Lib.hid (HE2.out.trans (if_neg (by simp)))
        clear e2 e2' e1 e1'
        go_wp2
        go_roundw
        case rel => exact ⟨k + 1, by omega, by go_num, by rw [HL2.out], by rw [HBt.out], firstE_step HPre.out HE3.out, HB⟩
        case measure => simp [intOf]; omega
      have e3' : (yk == 3) = false := beq_eq_false_iff_ne.2 e3
      have HE3 := Lib.hid (HE2.out.trans (if_pos (by rintro (h | h | h) <;> contradiction)))
      have HR2 := Lib.hid (HR.out.trans (show _ = ((k : Int), (11 : Int)) by rw [firstE_some hlt HPre.out HE3.out]))
      have b1 : (yk != 1) = true := bne_iff_ne.2 e1
      have b2 : (yk != 2) = true := bne_iff_ne.2 e2
      have b3 : (yk != 3) = true := bne_iff_ne.2 e3
      go_wp2
      go_ret2
      exact ⟨ret_pp HR2.out, below_step HW.out HB⟩
    · have e : k = kl.length := by omega
      have HR2 := Lib.hid (HR.out.trans (show _ = (if 1 < lpmM kl then ((-2 : Int), (7 : Int)) else if 64 < bitsM p kl then (-2, 10) else (0, 0)) by rw [firstE_none (by rw [← e]; exact HPre.out)]))
      rw [show kl.take k = kl by rw [e, List.take_length]] at *
      generalize lpmM kl = lm at *
      generalize bitsM p kl = bm at *
      have hp3 := hp wr HB
      by_cases k1 : 1 < lm
      · replace HR2 := Lib.hid (HR2.out.trans (if_pos k1))
        go_wp2
        go_ret2
        exact ⟨ret_pp HR2.out, below_step HW.out HB⟩
      replace HR2 := Lib.hid (HR2.out.trans (if_neg k1))
      by_cases k2 : 64 < bm
      · replace HR2 := Lib.hid (HR2.out.trans (if_pos k2))
        go_wp2
        go_ret2
        exact ⟨ret_pp HR2.out, below_step HW.out HB⟩
      replace HR2 := Lib.hid (HR2.out.trans (if_neg k2))
      go_wp2
      go_ret2
      exact ⟨ret_pp HR2.out, below_step HW.out HB⟩

set_option maxRecDepth 100000 in
set_option maxHeartbeats 8000000 in
theorem rtacts_any (p : ProgD) (t : TabD) (w : World) (o : ProgOk w p) (ot : TabOk w t) (hwf : ∀ v ∈ t.args.l, (Lit.int .u32 v).wf = true) :
    Calls Tryz.prog 148 #[.agg (progCells p), .agg (tabCells t)] w fun e w' => e = .returned (.int .i64 (tactsM p t)) ∧ Below w.heap.size w w' := by
  obtain ⟨tn, tk, ⟨al, aA, ac⟩, td, ⟨gl, gA, gc⟩, tz⟩ := t
  have HO := Lib.hid o
  have HK := Lib.hid ot.acts
  have HG := Lib.hid ot.args
  have HWF := Lib.hid hwf
  simp only at HK HG HWF
  have hmx : al.length ≤ 9223372036854775807 := HK.out.1
  obtain ⟨W, hW, hw, HB, hp⟩ := box2 w (progCells p) 31 (tabCells ⟨tn, tk, ⟨al, aA, ac⟩, td, ⟨gl, gA, gc⟩, tz⟩) 129
  have HW := Lib.hid hw
  have HW0 := Lib.hid HB
  have HR := Lib.hid (tactsM_eq p ⟨tn, tk, ⟨al, aA, ac⟩, td, ⟨gl, gA, gc⟩, tz⟩)
  have HS := Lib.hid (tactAtM_at p al)
  simp only at HR
  clear o ot hw hwf
  go_enter Tryz.func148, Tryz.ntmps148
  go_upto_region 1 with fail
  rw [← hW]
  clear hW
  go_wp2
  clear HB
  go_loopw [5] (fun iv wr => ∃ k : Nat, k ≤ al.length ∧ iv = .int .i64 k ∧ (∀ j, j < k → tactAtM p al j = none) ∧ Below W.heap.size W wr) (fun i _ => al.length - (intOf i).toNat)
  case atStart => exact ⟨0, Nat.zero_le _, rfl, fun j h => absurd h (Nat.not_lt_zero _), HW0.out⟩
  case round =>
    obtain ⟨k, hk, rfl, hpre, HB⟩ := hrel
    have HPre := Lib.hid hpre
    clear hpre
    have HVV := Lib.hid HB
    have HXr := Lib.hid (HK.out.below (below_step HW.out HB) (Nat.le_refl _))
    by_cases hlt : k < al.length
    · obtain ⟨g, of, hA, hq⟩ := icell_atA HXr.out hlt
      have HE := Lib.hid (HS.out k hlt)
      have HI := Lib.hid (idxM_lt hlt)
      have hq0 := hq wr (Below.refl _ _)
      have hn1 : (k : Int) < (al.length : Int) := by omega
      have hp0 := hp wr HB
      simp only at hA hq0 hq
      subst hA
      have HIx : Hid (∀ n u, Below wr.heap.size wr u → Calls Tryz.prog 187 #[.slice (some ⟨g, of, none⟩) al.length ac, .int .i64 n] u fun e w' => e = .returned (.int .i64 (idxM al n)) ∧ u = w') :=
        Lib.hid (fun n u hb => rindex_any ⟨al, some ⟨g, of, none⟩, ac⟩ n u (HXr.out.below hb (Nat.le_refl _)))
      generalize al[k] = a at *
      have hcase : a < 0 ∨ (0 ≤ a ∧ (p.actions.l.length : Int) ≤ a) ∨ (0 ≤ a ∧ a < (p.actions.l.length : Int)) := by omega
      rcases hcase with h1 | ⟨h1, h2⟩ | ⟨h1, h2⟩
      · have HE2 := Lib.hid (HE.out.trans (if_pos (Or.inl h1)))
        have HR2 := Lib.hid (HR.out.trans (show _ = (8 : Int) by rw [firstE_some hlt HPre.out HE2.out]))
        have b1 : decide (a < 0) = true := decide_eq_true h1
        go_wp2
        go_quiet (fail)
        go_wp2
        go_ret
        exact ⟨by rw [HR2.out]; rfl, below_step HW.out (below_drewN HB _)⟩
      · have HE2 := Lib.hid (HE.out.trans (if_pos (Or.inr h2)))
        have HR2 := Lib.hid (HR.out.trans (show _ = (8 : Int) by rw [firstE_some hlt HPre.out HE2.out]))
        have b1 : decide (a < 0) = false := decide_eq_false (by omega)
        go_wp2
        go_quiet (fail)
        go_wp2
        go_ret
        exact ⟨by rw [HR2.out]; rfl, below_step HW.out (below_drewN HB _)⟩
      · have HE2 := Lib.hid (HE.out.trans (if_neg (show ¬ (a < 0 ∨ (p.actions.l.length : Int) ≤ a) by omega)))
        have b1 : decide (a < 0) = false := decide_eq_false (by omega)
        have hle := idxM_le al a
        have HI2 := Lib.hid (idxM_le al a)
        go_wp2
        go_quiet (fail)
        have HB2 := below_drewN HB nq
        have hp1 := hp _ HB2
        have HW1 := Lib.hid (below_drewN (Below.refl wr.heap.size wr) nq)
        have hq1 := hq _ HW1.out
        generalize World.drewN wr nq = wx at *
        go_wp2
        go_quiet ((go_at_call 187; exact Calls.quiet_of_same (flipC (HIx.out a _ (below_drewN HW1.out _)))))
        generalize idxM al a = ix at *
        by_cases hd : a ∈ al.take k
        · have HE3 := Lib.hid (HE2.out.trans (if_pos hd))
          have HR2 := Lib.hid (HR.out.trans (show _ = (7 : Int) by rw [firstE_some hlt HPre.out HE3.out]))
          have hx := HI.out.2 hd
          clear hd
          go_wp2
          go_ret
          exact ⟨by rw [HR2.out]; rfl, below_step HW.out (below_drewN HB2 _)⟩
        · have HE3 := Lib.hid (HE2.out.trans (if_neg hd))
          have hx : ¬ ix < (k : Int) := fun h => hd (HI.out.1 h)
          clear hd
          go_wp2
          go_roundw
          case rel => exact ⟨k + 1, by omega, by go_num, firstE_step HPre.out HE3.out, below_drewN HB2 _⟩
          case measure => simp [intOf]; omega
    · have e : k = al.length := by omega
      have HR2 := Lib.hid (HR.out.trans (show _ = (if td ∈ al then callM p td gl else 8) by rw [firstE_none (by rw [← e]; exact HPre.out)]))
      have hp0 := hp wr HB
      go_wp2_with fail
      refine (rindex_any ⟨al, aA, ac⟩ td _ HXr.out).mono ?_
      rintro e w' ⟨rfl, rfl⟩
      have HN := Lib.hid (idxM_neg (l := al) (n := td))
      generalize idxM al td = ix at *
      by_cases hd : td ∈ al
      · replace HR2 := Lib.hid (HR2.out.trans (if_pos hd))
        have hx : ¬ ix < 0 := fun h => HN.out.1 h hd
        clear hd
        go_wp2_with fail
        refine (rcheckCall_any p td ⟨gl, gA, gc⟩ _ (HO.out.below (below_step HW.out (by first | exact HB | exact below_alloc HB _ | exact below_alloc (below_alloc HB _) _ | exact below_alloc (below_alloc (below_alloc HB _) _) _))) (HG.out.below (below_step HW.out (by first | exact HB | exact below_alloc HB _ | exact below_alloc (below_alloc HB _) _ | exact below_alloc (below_alloc (below_alloc HB _) _) _)) (Nat.le_refl _)) HWF.out).mono ?_
        rintro e w2 ⟨rfl, hbN⟩
        replace HB := below_step (by first | exact HB | exact below_alloc HB _ | exact below_alloc (below_alloc HB _) _ | exact below_alloc (below_alloc (below_alloc HB _) _) _) hbN
        clear hbN
        go_wp2
        go_ret
        exact ⟨by rw [HR2.out]; rfl, below_step HW.out HB⟩
      · replace HR2 := Lib.hid (HR2.out.trans (if_neg hd))
        have hx : ix < 0 := HN.out.2 hd
        clear hd
        go_wp2
        go_ret
        exact ⟨by rw [HR2.out]; rfl, below_step HW.out HB⟩

set_option maxRecDepth 100000 in
set_option maxHeartbeats 4000000 in
theorem rtableCheck_any (p : ProgD) (i : Nat) (hi : i < p.tables.l.length) (w : World) (o : ProgOk w p) (hc : ∀ t ∈ p.tables.l, ∀ v ∈ t.args.l, (Lit.int .u32 v).wf = true) :
    Calls Tryz.prog 98 #[.agg (progCells p), .int .i64 i] w fun e w' => e = .returned (.tuple #[.int .i64 (tabM p p.tables.l[i]).1, .int .i64 (tabM p p.tables.l[i]).2]) ∧ Below w.heap.size w w' := by
  have HO := Lib.hid o
  obtain ⟨W, hW, hw, HB, hp⟩ := box1 w (progCells p) 31
  have HW := Lib.hid hw
  have HA : Hid (TabOk W p.tables.l[i]) := Lib.hid ((o.tab _ (List.getElem_mem hi)).below hw)
  have HC := Lib.hid (hc _ (List.getElem_mem hi))
  have HR := Lib.hid (tabM.eq_1 p p.tables.l[i])
  obtain ⟨g, of, hA, hq⟩ := TabD.atA (o.tables.below hw (Nat.le_refl _)) hi
  have hn1 : (i : Int) < (p.tables.l.length : Int) := by omega
  clear o hw hc
  generalize p.tables.l[i] = t at *
  obtain ⟨tn, ⟨kl, kA, kc⟩, ⟨al, aA, ac⟩, td, ⟨gl, gA, gc⟩, tz⟩ := t
  simp only at HR hq
  have HAA := Lib.hid hA
  simp only [progCells, hA] at hp hW ⊢
  clear hA
  go_enter Tryz.func98, Tryz.ntmps98
  go_upto_region 1 with fail
  rw [← hW]
  clear hW
  refine Exists.elim (box1 W #[.string tn, .slice kA kl.length kc, .slice aA al.length ac, .int .i64 td, .slice gA gl.length gc, .int .i64 tz] 129) ?_
  rintro U ⟨hU, hu, hUU, hc⟩
  go_wp2_with fail
  rw [← hU]
  clear hU
  have HU := Lib.hid hu
  have hp2 := fun w' h => hp w' (below_step hu h)
  replace HB := hUU
  have HHS : Hid (tn.size ≤ maxLen) := Lib.hid HA.out.name
  clear hp hUU hu
  refine (risIdent_any tn _ HHS.out).mono ?_
  rintro e w' ⟨rfl, rfl⟩
  cases h1 : identM tn.data.toList
  · replace HR := Lib.hid (HR.out.trans (if_pos (show ident tn = false from h1)))
    go_wp2
    go_ret2
    exact ⟨ret_pp HR.out, below_step HW.out (below_step HU.out HB)⟩
  replace HR := Lib.hid (HR.out.trans (if_neg (show ¬ ident tn = false by rw [show ident tn = true from h1]; simp)))
  clear h1
  by_cases h2 : 6 < kl.length ∨ 16 < al.length
  · replace HR := Lib.hid (HR.out.trans (if_pos h2))
    have h2' : 6 < kl.length ∨ (kl.length ≤ 6 ∧ 16 < al.length) := by omega
    rcases h2' with h2 | ⟨h2, h3⟩
    all_goals
      go_wp2
      go_ret2
      exact ⟨ret_pp HR.out, below_step HW.out (below_step HU.out HB)⟩
  replace HR := Lib.hid (HR.out.trans (if_neg h2))
  have h3 : kl.length ≤ 6 := by omega
  have h4 : al.length ≤ 16 := by omega
  clear h2
  by_cases h2 : tz < 1 ∨ 256 < tz
  · replace HR := Lib.hid (HR.out.trans (if_pos h2))
    have h2' : tz < 1 ∨ (1 ≤ tz ∧ 256 < tz) := by omega
    rcases h2' with h2 | ⟨h2, h5⟩
    all_goals
      go_wp2
      go_ret2
      exact ⟨ret_pp HR.out, below_step HW.out (below_step HU.out HB)⟩
  replace HR := Lib.hid (HR.out.trans (if_neg h2))
  have h5 : 1 ≤ tz := by omega
  have h6 : tz ≤ 256 := by omega
  clear h2
  go_wp2_with fail
  have hCN := rkeys_any p ⟨tn, ⟨kl, kA, kc⟩, ⟨al, aA, ac⟩, td, ⟨gl, gA, gc⟩, tz⟩ U (HO.out.below (below_step HW.out (below_step HU.out (by first | exact HB | exact below_alloc HB _ | exact below_alloc (below_alloc HB _) _ | exact below_alloc (below_alloc (below_alloc HB _) _) _)))) (HA.out.below (below_step HU.out (by first | exact HB | exact below_alloc HB _ | exact below_alloc (below_alloc HB _) _ | exact below_alloc (below_alloc (below_alloc HB _) _) _))) h3
  simp only [progCells, HAA.out] at hCN
  refine hCN.mono ?_
  clear hCN
  rintro e w1 ⟨rfl, hbN⟩
  replace HB := below_step (by first | exact HB | exact below_alloc HB _ | exact below_alloc (below_alloc HB _) _ | exact below_alloc (below_alloc (below_alloc HB _) _) _) hbN
  clear hbN
  generalize keysM p kl = r at *
  obtain ⟨ka, kc2⟩ := r
  simp only at HR
  by_cases k1 : kc2 = 0
  case neg =>
    have k1' : (kc2 == 0) = false := beq_eq_false_iff_ne.2 k1
    replace HR := Lib.hid (HR.out.trans (if_pos k1))
    go_wp2
    go_ret2
    exact ⟨ret_pp HR.out, below_step HW.out (below_step HU.out HB)⟩
  subst k1
  replace HR := Lib.hid (HR.out.trans (if_neg (by simp)))
  go_wp2_with fail
  have hCN := rtacts_any p ⟨tn, ⟨kl, kA, kc⟩, ⟨al, aA, ac⟩, td, ⟨gl, gA, gc⟩, tz⟩ w1 (HO.out.below (below_step HW.out (below_step HU.out (by first | exact HB | exact below_alloc HB _ | exact below_alloc (below_alloc HB _) _ | exact below_alloc (below_alloc (below_alloc HB _) _) _)))) (HA.out.below (below_step HU.out (by first | exact HB | exact below_alloc HB _ | exact below_alloc (below_alloc HB _) _ | exact below_alloc (below_alloc (below_alloc HB _) _) _))) HC.out
  simp only [progCells, HAA.out] at hCN
  refine hCN.mono ?_
  clear hCN
  rintro e w2 ⟨rfl, hbN⟩
  replace HB := below_step (by first | exact HB | exact below_alloc HB _ | exact below_alloc (below_alloc HB _) _ | exact below_alloc (below_alloc (below_alloc HB _) _) _) hbN
  clear hbN
  generalize tactsM p ⟨tn, ⟨kl, kA, kc⟩, ⟨al, aA, ac⟩, td, ⟨gl, gA, gc⟩, tz⟩ = tm at *
  by_cases k1 : tm = 0
  · subst k1
    replace HR := Lib.hid (HR.out.trans (if_neg (by simp)))
    go_wp2
    go_ret2
    exact ⟨ret_pp HR.out, below_step HW.out (below_step HU.out HB)⟩
  · have k1' : (tm == 0) = false := beq_eq_false_iff_ne.2 k1
    replace HR := Lib.hid (HR.out.trans (if_pos k1))
    go_wp2
    go_ret2
    exact ⟨ret_pp HR.out, below_step HW.out (below_step HU.out HB)⟩
end Go.Proofs.YtbfjknidinkafaaGreat

