/- The walk of package program's check of the metadata on any program, with its errors. No condition but that the program lies in memory. -/
import Derived.Test.YtgfbikknkcaneaaGreatClB
import Derived.StillTailTactics
namespace Go.Proofs.YtgfbikknkcaneaaGreat
open Go.RowKit

theorem mixed : Tryz.prog.follows .mixedOrders = true := by kernel_rfl
theorem still_skip {P : Program} {ops : Array Oper} {w : World} {Q : Act → Prop} {a : Act} {o : Oper} {rest : List Oper} (hw : Region.wanted o (yielded ops a.tmps) = false) (h : wpStill P ops w Q rest (a.put o.dst undef)) : wpStill P ops w Q (o :: rest) a := by
  unfold wpStill
  rw [hw]
  simpa using h
theorem when_flip (b : Bool) (c : Int) (w : World) : Calls Tryz.prog 108 #[.bool b, .int .i64 c] w fun e w' => e = .returned (.int .i64 (if b = true then c else 0)) ∧ w' = w := (when_any b c w).mono fun _ _ h => ⟨h.1, h.2.symm⟩
def mAt (l : List FieldD) (i : Nat) : Option DiagD := (fldM l i).map fun e => (⟨e, 2, i, 0⟩ : DiagD)
def wAt (l : List FieldD) (i : Nat) : Option DiagD := if isWant l i = false then some ⟨5, 2, i, 0⟩ else none
theorem metaM_eq (p : ProgD) : metaM p = if 12 < p.metadata.l.length then some ⟨12, 2, 0, 0⟩
  else match firstE p.metadata.l.length (mAt p.metadata.l) with
    | some d => some d
    | none => firstE 3 (wAt p.metadata.l) := rfl
theorem mAt_some {l : List FieldD} {i : Nat} {e : Int} (h : fldM l i = some e) : mAt l i = some ⟨e, 2, i, 0⟩ := by rw [mAt, h]; rfl
theorem mAt_none {l : List FieldD} {i : Nat} (h : fldM l i = none) : mAt l i = none := by rw [mAt, h]; rfl
theorem wAt_none {l : List FieldD} {i : Nat} (h : isWant l i = true) : wAt l i = none := by rw [wAt, h]; rfl
theorem wAt_some {l : List FieldD} {i : Nat} (h : isWant l i = false) : wAt l i = some ⟨5, 2, i, 0⟩ := by rw [wAt, h]; rfl
theorem want_out {l : List FieldD} {i : Nat} (h : l.length ≤ i) : isWant l i = false := by rw [isWant, List.getElem?_eq_none h]
theorem lit_in : (⟨#[105, 110]⟩ : ByteArray).toList = [105, 110] := by rw [toList_data]
theorem nm_in_yes {s : ByteArray} (h : s = (⟨#[105, 110]⟩ : ByteArray)) : (s.toList == [105, 110]) = true := by rw [h, lit_in]; rfl
theorem nm_in_no {s : ByteArray} (h : ¬ s = (⟨#[105, 110]⟩ : ByteArray)) : (s.toList == [105, 110]) = false := beq_eq_false_iff_ne.2 fun e => h (toList_inj.1 (e.trans lit_in.symm))
theorem want_in (l : List FieldD) (h : 0 < l.length) : isWant l 0 = (decide (l[0].name = (⟨#[105, 110]⟩ : ByteArray)) && decide (l[0].width = 8)) := by
  rw [isWant, List.getElem?_eq_getElem h]
  rfl
theorem lit_out : (⟨#[111, 117, 116]⟩ : ByteArray).toList = [111, 117, 116] := by rw [toList_data]
theorem nm_out_yes {s : ByteArray} (h : s = (⟨#[111, 117, 116]⟩ : ByteArray)) : (s.toList == [111, 117, 116]) = true := by rw [h, lit_out]; rfl
theorem nm_out_no {s : ByteArray} (h : ¬ s = (⟨#[111, 117, 116]⟩ : ByteArray)) : (s.toList == [111, 117, 116]) = false := beq_eq_false_iff_ne.2 fun e => h (toList_inj.1 (e.trans lit_out.symm))
theorem want_out_ (l : List FieldD) (h : 1 < l.length) : isWant l 1 = (decide (l[1].name = (⟨#[111, 117, 116]⟩ : ByteArray)) && decide (l[1].width = 8)) := by
  rw [isWant, List.getElem?_eq_getElem h]
  rfl
theorem lit_drop : (⟨#[100, 114, 111, 112]⟩ : ByteArray).toList = [100, 114, 111, 112] := by rw [toList_data]
theorem nm_drop_yes {s : ByteArray} (h : s = (⟨#[100, 114, 111, 112]⟩ : ByteArray)) : (s.toList == [100, 114, 111, 112]) = true := by rw [h, lit_drop]; rfl
theorem nm_drop_no {s : ByteArray} (h : ¬ s = (⟨#[100, 114, 111, 112]⟩ : ByteArray)) : (s.toList == [100, 114, 111, 112]) = false := beq_eq_false_iff_ne.2 fun e => h (toList_inj.1 (e.trans lit_drop.symm))
theorem want_drop (l : List FieldD) (h : 2 < l.length) : isWant l 2 = (decide (l[2].name = (⟨#[100, 114, 111, 112]⟩ : ByteArray)) && decide (l[2].width = 1)) := by
  rw [isWant, List.getElem?_eq_getElem h]
  rfl

set_option maxRecDepth 100000 in
set_option maxHeartbeats 8000000 in
theorem checkMetadata_any (p : ProgD) (w : World) (o : ProgOk w p) :
    Calls Tryz.prog 53 #[.agg (progCells p)] w fun e w' => e = outE (metaM p) ∧ Below w.heap.size w w' := by
  obtain ⟨W, hW, hw, HB, hp⟩ := box1 w (progCells p) 31
  have HW := Lib.hid hw
  have HOW := Lib.hid (o.below hw)
  have HR := Lib.hid (metaM_eq p)
  have HS := Lib.hid (fldM_at p.metadata.l)
  have HN : Hid (∀ f ∈ p.metadata.l, f.name.size ≤ maxLen) := Lib.hid HOW.out.mnames
  have HX := Lib.hid HOW.out.metadata
  have HNm := Lib.hid (fun w' (h : Below W.heap.size W w') (hl : p.metadata.l.length ≤ 100) => names_field p.metadata w' (HOW.out.metadata.below h (Nat.le_refl _)) hl)
  have HW0 := Lib.hid (want_in p.metadata.l)
  have HW1 := Lib.hid (want_out_ p.metadata.l)
  have HW2 := Lib.hid (want_drop p.metadata.l)
  clear o hw
  obtain ⟨⟨ml, mA, mc⟩, hmd⟩ : ∃ x, p.metadata = x := ⟨_, rfl⟩
  simp only [progCells, hmd] at hp hW ⊢
  rw [hmd] at HR HS HN HX HNm HW0 HW1 HW2
  simp only at HR HS HN HNm HW0 HW1 HW2
  clear hmd HOW
  have HB0 := Lib.hid HB
  go_enter Tryz.func53, Tryz.ntmps53
  go_upto_region 1 with fail
  rw [← hW]
  clear hW
  by_cases h12 : 12 < ml.length
  · replace HR := Lib.hid (HR.out.trans (if_pos h12))
    go_wp2_with fail
    refine (when_true _ _ _ (by first | rfl | (simp; omega))).mono ?_
    rintro e w' ⟨rfl, rfl⟩
    go_wp2_with fail
    refine (require_bad 12 2 0 0 _ rfl).mono ?_
    rintro e w' ⟨rfl, rfl⟩
    go_wp2
    exact ⟨rfl, by rw [HR.out]; rfl, below_step HW.out HB⟩
  replace HR := Lib.hid (HR.out.trans (if_neg h12))
  have hle : ml.length ≤ 12 := by omega
  clear h12
  go_wp2_with fail
  refine (when_false _ _ _ (by first | rfl | (simp; omega))).mono ?_
  rintro e w' ⟨rfl, rfl⟩
  go_wp2_with fail
  refine (require_ok _ _ _ _).mono ?_
  rintro e w' ⟨rfl, rfl⟩
  go_wp2_with fail
  refine (HNm.out _ HB (by omega)).mono ?_
  rintro e w1 ⟨A, c, rfl, hown, hb1⟩
  have HOwn := Lib.hid hown
  replace HB := below_step HB hb1
  have HB1 := Lib.hid HB
  clear hb1 hown HNm
  go_wp2
  clear HB
  go_loopw [3, 4, 19] (fun _ _ iv wr => ∃ k : Nat, k ≤ ml.length ∧ iv = .int .i64 k ∧ (∀ j, j < k → mAt ml j = none) ∧ Below w1.heap.size w1 wr) (fun _ _ i _ => ml.length - (intOf i).toNat)
  case atStart => exact ⟨0, Nat.zero_le _, rfl, fun j h => absurd h (Nat.not_lt_zero _), Below.refl _ _⟩
  case round =>
    obtain ⟨k, hk, rfl, hpre, HB⟩ := hrel
    have HPre := Lib.hid hpre
    clear hpre
    by_cases hlt : k < ml.length
    · obtain ⟨g, of, hA, d0, d1⟩ := FieldD.at (HX.out.below (below_step HB1.out HB) (Nat.le_refl _)) hlt
      have HE := Lib.hid (HS.out k hlt)
      have HNk := Lib.hid (HN.out _ (List.getElem_mem hlt))
      simp only at hA d0 d1
      subst hA
      clear HW0 HW1 HW2
      generalize ml[k] = y at *
      obtain ⟨yn, yw⟩ := y
      simp only at HE HNk d0 d1
      obtain ⟨gn, rfl, hg⟩ := OwnStrs.form HOwn.out (show 0 < (ml.map FieldD.name).length by rw [List.length_map]; omega)
      have HG := Lib.hid hg
      clear hg
      have hca := @World.cell?_alloc_some
      go_wp2_with fail
      refine (identifier_any yn _ HNk.out).mono ?_
      rintro e w' ⟨rfl, rfl⟩
      cases h1 : ident yn
      · have HE2 := Lib.hid (mAt_some (HE.out.trans (if_pos h1)))
        have HR2 := Lib.hid (HR.out.trans (show _ = some (⟨6, 2, k, 0⟩ : DiagD) by rw [firstE_some hlt HPre.out HE2.out]))
        go_wp2_with fail
        refine (when_true _ _ _ rfl).mono ?_
        rintro e w' ⟨rfl, rfl⟩
        go_wp2_with fail
        refine (require_bad 6 2 k 0 _ rfl).mono ?_
        rintro e w' ⟨rfl, rfl⟩
        go_wp2
        exact ⟨rfl, by rw [HR2.out]; rfl, below_step HW.out (below_step HB1.out (by first | exact HB | exact below_alloc HB _ | exact below_alloc (below_alloc HB _) _ | exact below_alloc (below_alloc (below_alloc HB _) _) _))⟩
      have HF1 := Lib.hid (HE.out.trans (if_neg (by rw [h1]; simp)))
      clear h1 HE
      go_wp2_with fail
      refine (when_false _ _ _ rfl).mono ?_
      rintro e w' ⟨rfl, rfl⟩
      go_wp2_with fail
      refine (require_ok _ _ _ _).mono ?_
      rintro e w' ⟨rfl, rfl⟩
      go_wp2_with fail
      refine (widthInvalid_any _ _).mono ?_
      rintro e w' ⟨rfl, rfl⟩
      cases h2 : okW yw
      · have HE2 := Lib.hid (mAt_some (HF1.out.trans (if_pos h2)))
        have HR2 := Lib.hid (HR.out.trans (show _ = some (⟨10, 2, k, 0⟩ : DiagD) by rw [firstE_some hlt HPre.out HE2.out]))
        have h3 := okW_not.1 h2
        go_wp2_with fail
        refine (when_true _ _ _ (by simp; omega)).mono ?_
        rintro e w' ⟨rfl, rfl⟩
        go_wp2_with fail
        refine (require_bad 10 2 k 0 _ rfl).mono ?_
        rintro e w' ⟨rfl, rfl⟩
        go_wp2
        exact ⟨rfl, by rw [HR2.out]; rfl, below_step HW.out (below_step HB1.out (by first | exact HB | exact below_alloc HB _ | exact below_alloc (below_alloc HB _) _ | exact below_alloc (below_alloc (below_alloc HB _) _) _))⟩
      have HF2 := Lib.hid (HF1.out.trans (if_neg (by rw [h2]; simp)))
      have h3 := okW_iff.1 h2
      clear HF1
      go_wp2_with fail
      refine (when_false _ _ _ (by simp; omega)).mono ?_
      rintro e w' ⟨rfl, rfl⟩
      go_wp2_with fail
      refine (require_ok _ _ _ _).mono ?_
      rintro e w' ⟨rfl, rfl⟩
      clear d0 d1 hca
      go_wp2_with fail
      refine (rep_at (ml.map FieldD.name) ml.length gn c k w1 _ (by simp) hlt (by omega) HG.out (by first | exact HB | exact below_alloc HB _ | exact below_alloc (below_alloc HB _) _ | exact below_alloc (below_alloc (below_alloc HB _) _) _)).mono ?_
      rintro e w3 ⟨rfl, hbN⟩
      replace HB := below_step (by first | exact HB | exact below_alloc HB _ | exact below_alloc (below_alloc HB _) _ | exact below_alloc (below_alloc (below_alloc HB _) _) _) hbN
      clear hbN
      cases hd : dupB (ml.map FieldD.name) k
      case true =>
        have HE2 := Lib.hid (mAt_some (HF2.out.trans (if_pos hd)))
        have HR2 := Lib.hid (HR.out.trans (show _ = some (⟨7, 2, k, 0⟩ : DiagD) by rw [firstE_some hlt HPre.out HE2.out]))
        go_wp2_with fail
        refine (when_true _ _ _ rfl).mono ?_
        rintro e w' ⟨rfl, rfl⟩
        go_wp2_with fail
        refine (require_bad 7 2 k 0 _ rfl).mono ?_
        rintro e w' ⟨rfl, rfl⟩
        go_wp2
        exact ⟨rfl, by rw [HR2.out]; rfl, below_step HW.out (below_step HB1.out HB)⟩
      have HE4 := Lib.hid (mAt_none (HF2.out.trans (if_neg (by rw [hd]; simp))))
      go_wp2_with fail
      refine (when_false _ _ _ rfl).mono ?_
      rintro e w' ⟨rfl, rfl⟩
      go_wp2_with fail
      refine (require_ok _ _ _ _).mono ?_
      rintro e w' ⟨rfl, rfl⟩
      go_wp2
      go_roundw
      case rel => exact ⟨k + 1, by omega, by go_num, firstE_step HPre.out HE4.out, HB⟩
      case measure => simp [intOf]; omega
    have e : k = ml.length := by omega
    have HR2 := Lib.hid (HR.out.trans (show _ = firstE 3 (wAt ml) by rw [firstE_none (by rw [← e]; exact HPre.out)]))
    have hkx : ¬ ((k : Int) < (ml.length : Int)) := by omega
    have HBb := Lib.hid (below_step HB1.out HB)
    clear HPre HB1 HOwn hlt e HB HR HS HN
    go_wp2
    go_loopw [5, 6, 47] (fun _ _ iv wr => ∃ k : Nat, k ≤ 3 ∧ iv = .int .i64 k ∧ (∀ j, j < k → wAt ml j = none) ∧ Below W.heap.size W wr) (fun _ _ i _ => 3 - (intOf i).toNat)
    case atStart => exact ⟨0, Nat.zero_le _, rfl, fun j h => absurd h (Nat.not_lt_zero _), HBb.out⟩
    case round =>
      clear hk hkx HBb
      obtain ⟨k, hk, rfl, hpre, HB⟩ := hrel
      have HPre := Lib.hid hpre
      clear hpre
      rcases (show k = 0 ∨ k = 1 ∨ k = 2 ∨ k = 3 by omega) with rfl | rfl | rfl | rfl
      case inr.inr.inr =>
        have HR3 := Lib.hid (HR2.out.trans (firstE_none HPre.out))
        go_wp2
        go_end0
        exact ⟨by rw [HR3.out]; rfl, below_step HW.out HB⟩
      case inl =>
        have hix := i95_0
        refine Exists.elim (box1 wr #[.string ⟨#[105, 110]⟩, .int .i64 8] 63) ?_
        rintro V ⟨hV, hv, hVV, hbx⟩
        have HBV := Lib.hid (below_step HB hv)
        have hp1 := hp V.drew (below_step HB hv).drew
        have b0 : V.drew.cell? ⟨wr.heap.size, 0, none⟩ = some (.string ⟨#[105, 110]⟩) := hbx V.drew hVV.drew 0 (show 0 < 2 by decide)
        have b1 : V.drew.cell? ⟨wr.heap.size, 1, none⟩ = some (.int .i64 8) := hbx V.drew hVV.drew 1 (show 1 < 2 by decide)
        by_cases hlt : 0 < ml.length
        case neg =>
          have HE2 := Lib.hid (wAt_some (want_out (l := ml) (i := 0) (by omega)))
          have HR3 := Lib.hid (HR2.out.trans (firstE_some (show 0 < 3 by decide) HPre.out HE2.out))
          have E1 : Hid ((ml.length : Int) ≤ 0) := Lib.hid (by omega)
          have E2 : Hid (ml.length ≤ 0) := Lib.hid (by omega)
          have E0 : Hid (ml = []) := Lib.hid (List.eq_nil_of_length_eq_zero (by omega))
          clear hlt
          clear hv hVV hbx HB
          go_wp2
          rw [← hV]
          clear hV hix
          refine wp_region_still_tail 16 mixed (by kernel_rfl) ?_
          simp only [List.take_succ_cons, List.take_zero, List.drop_succ_cons, List.drop_zero]
          change wpStill _ _ V.drew _ _ _
          iterate 6 still_step
          iterate 7 (refine wpStill_step (fun K hK => ?_); go_simp; (first | rw [if_pos E0.out] | rw [if_neg (show ¬ (0 : Int) < (ml.length : Int) by have := E2.out; omega)]); refine hK _ ?_; clear hK K)
          have e0 := E0.out
          have e1 := E1.out
          have e2 := E2.out
          still_step
          clear e0 e1 e2
          still_call (when_flip _ _ _)
          still_step
          refine wpStill_nil ?_
          change wpList _ _ _ _ _ V.drew
          go_wp2_with fail
          refine (require_bad 5 2 0 0 _ rfl).mono ?_
          rintro e w' ⟨rfl, rfl⟩
          go_wp2
          exact ⟨rfl, by rw [HR3.out]; rfl, below_step HW.out HBV.out.drew⟩
        obtain ⟨g, of, hA, d0, d1⟩ := FieldD.at (HX.out.below HBV.out.drew (Nat.le_refl _)) hlt
        have HE := Lib.hid (HW0.out hlt)
        have N2 : Hid (0 < ml.length) := Lib.hid hlt
        have N3 : Hid ((0 : Int) < (ml.length : Int)) := Lib.hid (by omega)
        have N0 : Hid (¬ ml = []) := Lib.hid (fun e => by rw [e] at hlt; exact absurd hlt (Nat.lt_irrefl _))
        simp only at hA
        simp only [Nat.zero_mul, Nat.add_zero] at d0 d1
        subst hA
        generalize ml[0]'hlt = y at *
        obtain ⟨yn, yw⟩ := y
        simp only at HE d0 d1
        clear HW0 HW1 HW2 hv hVV hbx HB hlt
        go_wp2
        rw [← hV]
        clear hV hix
        by_cases he : yn = (⟨#[105, 110]⟩ : ByteArray)
        · by_cases he2 : yw = 8
          · have HE2 := Lib.hid (wAt_none (HE.out.trans (by rw [decide_eq_true he, decide_eq_true he2]; rfl)))
            have he' := nm_in_yes he
            have he2' : (yw == 8) = true := beq_iff_eq.2 he2
            clear he he2
            refine wp_region_still_tail 16 mixed (by kernel_rfl) ?_
            simp only [List.take_succ_cons, List.take_zero, List.drop_succ_cons, List.drop_zero]
            change wpStill _ _ V.drew _ _ _
            iterate 6 still_step
            iterate 3 (refine wpStill_step (fun K hK => ?_); go_simp; (first | rw [if_neg N0.out] | rw [if_pos (show (0 : Int) < (ml.length : Int) by have := N2.out; omega)]); refine hK _ ?_; clear hK K)
            iterate 1 (refine wpStill_step (fun K hK => ?_); go_simp; (first | rw [if_neg N0.out] | rw [if_pos (show (0 : Int) < (ml.length : Int) by have := N2.out; omega)]); (first | rw [if_pos N2.out] | rw [if_pos N3.out]); go_simp; refine hK _ ?_; clear hK K)
            iterate 3 (refine wpStill_step (fun K hK => ?_); go_simp; (first | rw [if_neg N0.out] | rw [if_pos (show (0 : Int) < (ml.length : Int) by have := N2.out; omega)]); refine hK _ ?_; clear hK K)
            have n0 := N0.out
            have n2 := N2.out
            have n3 := N3.out
            have n4 : decide ((ml.length : Int) ≤ 0) = false := decide_eq_false (by have := N2.out; omega)
            still_step
            clear n0 n2 n3 n4
            still_call (when_flip _ _ _)
            still_step
            refine wpStill_nil ?_
            change wpList _ _ _ _ _ V.drew
            go_wp2_with fail
            refine (require_ok _ _ _ _).mono ?_
            rintro e w' ⟨rfl, rfl⟩
            go_wp2
            go_roundw
            case rel => exact ⟨1, by omega, by go_num, firstE_step HPre.out HE2.out, HBV.out.drew⟩
            case measure => simp [intOf]
          · have HE2 := Lib.hid (wAt_some (HE.out.trans (by rw [decide_eq_false he2]; simp)))
            have HR3 := Lib.hid (HR2.out.trans (firstE_some (show 0 < 3 by decide) HPre.out HE2.out))
            have he' := nm_in_yes he
            have he2' : (yw == 8) = false := beq_eq_false_iff_ne.2 he2
            clear he he2
            refine wp_region_still_tail 16 mixed (by kernel_rfl) ?_
            simp only [List.take_succ_cons, List.take_zero, List.drop_succ_cons, List.drop_zero]
            change wpStill _ _ V.drew _ _ _
            iterate 6 still_step
            iterate 3 (refine wpStill_step (fun K hK => ?_); go_simp; (first | rw [if_neg N0.out] | rw [if_pos (show (0 : Int) < (ml.length : Int) by have := N2.out; omega)]); refine hK _ ?_; clear hK K)
            iterate 1 (refine wpStill_step (fun K hK => ?_); go_simp; (first | rw [if_neg N0.out] | rw [if_pos (show (0 : Int) < (ml.length : Int) by have := N2.out; omega)]); (first | rw [if_pos N2.out] | rw [if_pos N3.out]); go_simp; refine hK _ ?_; clear hK K)
            iterate 3 (refine wpStill_step (fun K hK => ?_); go_simp; (first | rw [if_neg N0.out] | rw [if_pos (show (0 : Int) < (ml.length : Int) by have := N2.out; omega)]); refine hK _ ?_; clear hK K)
            have n0 := N0.out
            have n2 := N2.out
            have n3 := N3.out
            have n4 : decide ((ml.length : Int) ≤ 0) = false := decide_eq_false (by have := N2.out; omega)
            still_step
            clear n0 n2 n3 n4
            still_call (when_flip _ _ _)
            still_step
            refine wpStill_nil ?_
            change wpList _ _ _ _ _ V.drew
            go_wp2_with fail
            refine (require_bad 5 2 0 0 _ rfl).mono ?_
            rintro e w' ⟨rfl, rfl⟩
            go_wp2
            exact ⟨rfl, by rw [HR3.out]; rfl, below_step HW.out HBV.out.drew⟩
        · have HE2 := Lib.hid (wAt_some (HE.out.trans (by rw [decide_eq_false he]; simp)))
          have HR3 := Lib.hid (HR2.out.trans (firstE_some (show 0 < 3 by decide) HPre.out HE2.out))
          have he' := nm_in_no he
          clear he
          refine wp_region_still_tail 16 mixed (by kernel_rfl) ?_
          simp only [List.take_succ_cons, List.take_zero, List.drop_succ_cons, List.drop_zero]
          change wpStill _ _ V.drew _ _ _
          iterate 6 still_step
          iterate 3 (refine wpStill_step (fun K hK => ?_); go_simp; (first | rw [if_neg N0.out] | rw [if_pos (show (0 : Int) < (ml.length : Int) by have := N2.out; omega)]); refine hK _ ?_; clear hK K)
          iterate 1 (refine wpStill_step (fun K hK => ?_); go_simp; (first | rw [if_neg N0.out] | rw [if_pos (show (0 : Int) < (ml.length : Int) by have := N2.out; omega)]); (first | rw [if_pos N2.out] | rw [if_pos N3.out]); go_simp; refine hK _ ?_; clear hK K)
          iterate 3 (refine wpStill_step (fun K hK => ?_); go_simp; (first | rw [if_neg N0.out] | rw [if_pos (show (0 : Int) < (ml.length : Int) by have := N2.out; omega)]); refine hK _ ?_; clear hK K)
          have n0 := N0.out
          have n2 := N2.out
          have n3 := N3.out
          have n4 : decide ((ml.length : Int) ≤ 0) = false := decide_eq_false (by have := N2.out; omega)
          still_step
          clear n0 n2 n3 n4
          still_call (when_flip _ _ _)
          still_step
          refine wpStill_nil ?_
          change wpList _ _ _ _ _ V.drew
          go_wp2_with fail
          refine (require_bad 5 2 0 0 _ rfl).mono ?_
          rintro e w' ⟨rfl, rfl⟩
          go_wp2
          exact ⟨rfl, by rw [HR3.out]; rfl, below_step HW.out HBV.out.drew⟩
      case inr.inl =>
        have hix := i95_1
        refine Exists.elim (box1 wr #[.string ⟨#[111, 117, 116]⟩, .int .i64 8] 63) ?_
        rintro V ⟨hV, hv, hVV, hbx⟩
        have HBV := Lib.hid (below_step HB hv)
        have hp1 := hp V.drew (below_step HB hv).drew
        have b0 : V.drew.cell? ⟨wr.heap.size, 0, none⟩ = some (.string ⟨#[111, 117, 116]⟩) := hbx V.drew hVV.drew 0 (show 0 < 2 by decide)
        have b1 : V.drew.cell? ⟨wr.heap.size, 1, none⟩ = some (.int .i64 8) := hbx V.drew hVV.drew 1 (show 1 < 2 by decide)
        by_cases hlt : 1 < ml.length
        case neg =>
          have HE2 := Lib.hid (wAt_some (want_out (l := ml) (i := 1) (by omega)))
          have HR3 := Lib.hid (HR2.out.trans (firstE_some (show 1 < 3 by decide) HPre.out HE2.out))
          have E1 : Hid ((ml.length : Int) ≤ 1) := Lib.hid (by omega)
          have E2 : Hid (ml.length ≤ 1) := Lib.hid (by omega)
          have E0 : Hid (ml.length ≤ 1) := E2
          clear hlt
          clear hv hVV hbx HB
          go_wp2
          rw [← hV]
          clear hV hix
          refine wp_region_still_tail 16 mixed (by kernel_rfl) ?_
          simp only [List.take_succ_cons, List.take_zero, List.drop_succ_cons, List.drop_zero]
          change wpStill _ _ V.drew _ _ _
          iterate 6 still_step
          iterate 7 (refine wpStill_step (fun K hK => ?_); go_simp; (first | rw [if_pos E0.out] | rw [if_neg (show ¬ (1 : Int) < (ml.length : Int) by have := E2.out; omega)]); refine hK _ ?_; clear hK K)
          have e0 := E0.out
          have e1 := E1.out
          have e2 := E2.out
          still_step
          clear e0 e1 e2
          still_call (when_flip _ _ _)
          still_step
          refine wpStill_nil ?_
          change wpList _ _ _ _ _ V.drew
          go_wp2_with fail
          refine (require_bad 5 2 1 0 _ rfl).mono ?_
          rintro e w' ⟨rfl, rfl⟩
          go_wp2
          exact ⟨rfl, by rw [HR3.out]; rfl, below_step HW.out HBV.out.drew⟩
        obtain ⟨g, of, hA, d0, d1⟩ := FieldD.at (HX.out.below HBV.out.drew (Nat.le_refl _)) hlt
        have HE := Lib.hid (HW1.out hlt)
        have N2 : Hid (1 < ml.length) := Lib.hid hlt
        have N3 : Hid ((1 : Int) < (ml.length : Int)) := Lib.hid (by omega)
        have N0 : Hid (¬ ml.length ≤ 1) := Lib.hid (by omega)
        simp only at hA
        simp only [Nat.one_mul] at d0 d1
        subst hA
        generalize ml[1]'hlt = y at *
        obtain ⟨yn, yw⟩ := y
        simp only at HE d0 d1
        clear HW0 HW1 HW2 hv hVV hbx HB hlt
        go_wp2
        rw [← hV]
        clear hV hix
        by_cases he : yn = (⟨#[111, 117, 116]⟩ : ByteArray)
        · by_cases he2 : yw = 8
          · have HE2 := Lib.hid (wAt_none (HE.out.trans (by rw [decide_eq_true he, decide_eq_true he2]; rfl)))
            have he' := nm_out_yes he
            have he2' : (yw == 8) = true := beq_iff_eq.2 he2
            clear he he2
            refine wp_region_still_tail 16 mixed (by kernel_rfl) ?_
            simp only [List.take_succ_cons, List.take_zero, List.drop_succ_cons, List.drop_zero]
            change wpStill _ _ V.drew _ _ _
            iterate 6 still_step
            iterate 3 (refine wpStill_step (fun K hK => ?_); go_simp; (first | rw [if_neg N0.out] | rw [if_pos (show (1 : Int) < (ml.length : Int) by have := N2.out; omega)]); refine hK _ ?_; clear hK K)
            iterate 1 (refine wpStill_step (fun K hK => ?_); go_simp; (first | rw [if_neg N0.out] | rw [if_pos (show (1 : Int) < (ml.length : Int) by have := N2.out; omega)]); (first | rw [if_pos N2.out] | rw [if_pos N3.out]); go_simp; refine hK _ ?_; clear hK K)
            iterate 3 (refine wpStill_step (fun K hK => ?_); go_simp; (first | rw [if_neg N0.out] | rw [if_pos (show (1 : Int) < (ml.length : Int) by have := N2.out; omega)]); refine hK _ ?_; clear hK K)
            have n0 := N0.out
            have n2 := N2.out
            have n3 := N3.out
            have n4 : decide ((ml.length : Int) ≤ 1) = false := decide_eq_false (by have := N2.out; omega)
            still_step
            clear n0 n2 n3 n4
            still_call (when_flip _ _ _)
            still_step
            refine wpStill_nil ?_
            change wpList _ _ _ _ _ V.drew
            go_wp2_with fail
            refine (require_ok _ _ _ _).mono ?_
            rintro e w' ⟨rfl, rfl⟩
            go_wp2
            go_roundw
            case rel => exact ⟨2, by omega, by go_num, firstE_step HPre.out HE2.out, HBV.out.drew⟩
            case measure => simp [intOf]
          · have HE2 := Lib.hid (wAt_some (HE.out.trans (by rw [decide_eq_false he2]; simp)))
            have HR3 := Lib.hid (HR2.out.trans (firstE_some (show 1 < 3 by decide) HPre.out HE2.out))
            have he' := nm_out_yes he
            have he2' : (yw == 8) = false := beq_eq_false_iff_ne.2 he2
            clear he he2
            refine wp_region_still_tail 16 mixed (by kernel_rfl) ?_
            simp only [List.take_succ_cons, List.take_zero, List.drop_succ_cons, List.drop_zero]
            change wpStill _ _ V.drew _ _ _
            iterate 6 still_step
            iterate 3 (refine wpStill_step (fun K hK => ?_); go_simp; (first | rw [if_neg N0.out] | rw [if_pos (show (1 : Int) < (ml.length : Int) by have := N2.out; omega)]); refine hK _ ?_; clear hK K)
            iterate 1 (refine wpStill_step (fun K hK => ?_); go_simp; (first | rw [if_neg N0.out] | rw [if_pos (show (1 : Int) < (ml.length : Int) by have := N2.out; omega)]); (first | rw [if_pos N2.out] | rw [if_pos N3.out]); go_simp; refine hK _ ?_; clear hK K)
            iterate 3 (refine wpStill_step (fun K hK => ?_); go_simp; (first | rw [if_neg N0.out] | rw [if_pos (show (1 : Int) < (ml.length : Int) by have := N2.out; omega)]); refine hK _ ?_; clear hK K)
            have n0 := N0.out
            have n2 := N2.out
            have n3 := N3.out
            have n4 : decide ((ml.length : Int) ≤ 1) = false := decide_eq_false (by have := N2.out; omega)
            still_step
            clear n0 n2 n3 n4
            still_call (when_flip _ _ _)
            still_step
            refine wpStill_nil ?_
            change wpList _ _ _ _ _ V.drew
            go_wp2_with fail
            refine (require_bad 5 2 1 0 _ rfl).mono ?_
            rintro e w' ⟨rfl, rfl⟩
            go_wp2
            exact ⟨rfl, by rw [HR3.out]; rfl, below_step HW.out HBV.out.drew⟩
        · have HE2 := Lib.hid (wAt_some (HE.out.trans (by rw [decide_eq_false he]; simp)))
          have HR3 := Lib.hid (HR2.out.trans (firstE_some (show 1 < 3 by decide) HPre.out HE2.out))
          have he' := nm_out_no he
          clear he
          refine wp_region_still_tail 16 mixed (by kernel_rfl) ?_
          simp only [List.take_succ_cons, List.take_zero, List.drop_succ_cons, List.drop_zero]
          change wpStill _ _ V.drew _ _ _
          iterate 6 still_step
          iterate 3 (refine wpStill_step (fun K hK => ?_); go_simp; (first | rw [if_neg N0.out] | rw [if_pos (show (1 : Int) < (ml.length : Int) by have := N2.out; omega)]); refine hK _ ?_; clear hK K)
          iterate 1 (refine wpStill_step (fun K hK => ?_); go_simp; (first | rw [if_neg N0.out] | rw [if_pos (show (1 : Int) < (ml.length : Int) by have := N2.out; omega)]); (first | rw [if_pos N2.out] | rw [if_pos N3.out]); go_simp; refine hK _ ?_; clear hK K)
          iterate 3 (refine wpStill_step (fun K hK => ?_); go_simp; (first | rw [if_neg N0.out] | rw [if_pos (show (1 : Int) < (ml.length : Int) by have := N2.out; omega)]); refine hK _ ?_; clear hK K)
          have n0 := N0.out
          have n2 := N2.out
          have n3 := N3.out
          have n4 : decide ((ml.length : Int) ≤ 1) = false := decide_eq_false (by have := N2.out; omega)
          still_step
          clear n0 n2 n3 n4
          still_call (when_flip _ _ _)
          still_step
          refine wpStill_nil ?_
          change wpList _ _ _ _ _ V.drew
          go_wp2_with fail
          refine (require_bad 5 2 1 0 _ rfl).mono ?_
          rintro e w' ⟨rfl, rfl⟩
          go_wp2
          exact ⟨rfl, by rw [HR3.out]; rfl, below_step HW.out HBV.out.drew⟩
      case inr.inr.inl =>
        have hix := i95_2
        refine Exists.elim (box1 wr #[.string ⟨#[100, 114, 111, 112]⟩, .int .i64 1] 63) ?_
        rintro V ⟨hV, hv, hVV, hbx⟩
        have HBV := Lib.hid (below_step HB hv)
        have hp1 := hp V.drew (below_step HB hv).drew
        have b0 : V.drew.cell? ⟨wr.heap.size, 0, none⟩ = some (.string ⟨#[100, 114, 111, 112]⟩) := hbx V.drew hVV.drew 0 (show 0 < 2 by decide)
        have b1 : V.drew.cell? ⟨wr.heap.size, 1, none⟩ = some (.int .i64 1) := hbx V.drew hVV.drew 1 (show 1 < 2 by decide)
        by_cases hlt : 2 < ml.length
        case neg =>
          have HE2 := Lib.hid (wAt_some (want_out (l := ml) (i := 2) (by omega)))
          have HR3 := Lib.hid (HR2.out.trans (firstE_some (show 2 < 3 by decide) HPre.out HE2.out))
          have E1 : Hid ((ml.length : Int) ≤ 2) := Lib.hid (by omega)
          have E2 : Hid (ml.length ≤ 2) := Lib.hid (by omega)
          have E0 : Hid (ml.length ≤ 2) := E2
          clear hlt
          clear hv hVV hbx HB
          go_wp2
          rw [← hV]
          clear hV hix
          refine wp_region_still_tail 16 mixed (by kernel_rfl) ?_
          simp only [List.take_succ_cons, List.take_zero, List.drop_succ_cons, List.drop_zero]
          change wpStill _ _ V.drew _ _ _
          iterate 6 still_step
          iterate 7 (refine wpStill_step (fun K hK => ?_); go_simp; (first | rw [if_pos E0.out] | rw [if_neg (show ¬ (2 : Int) < (ml.length : Int) by have := E2.out; omega)]); refine hK _ ?_; clear hK K)
          have e0 := E0.out
          have e1 := E1.out
          have e2 := E2.out
          still_step
          clear e0 e1 e2
          still_call (when_flip _ _ _)
          still_step
          refine wpStill_nil ?_
          change wpList _ _ _ _ _ V.drew
          go_wp2_with fail
          refine (require_bad 5 2 2 0 _ rfl).mono ?_
          rintro e w' ⟨rfl, rfl⟩
          go_wp2
          exact ⟨rfl, by rw [HR3.out]; rfl, below_step HW.out HBV.out.drew⟩
        obtain ⟨g, of, hA, d0, d1⟩ := FieldD.at (HX.out.below HBV.out.drew (Nat.le_refl _)) hlt
        have HE := Lib.hid (HW2.out hlt)
        have N2 : Hid (2 < ml.length) := Lib.hid hlt
        have N3 : Hid ((2 : Int) < (ml.length : Int)) := Lib.hid (by omega)
        have N0 : Hid (¬ ml.length ≤ 2) := Lib.hid (by omega)
        simp only at hA
        simp only [Nat.reduceMul] at d0 d1
        subst hA
        generalize ml[2]'hlt = y at *
        obtain ⟨yn, yw⟩ := y
        simp only at HE d0 d1
        clear HW0 HW1 HW2 hv hVV hbx HB hlt
        go_wp2
        rw [← hV]
        clear hV hix
        by_cases he : yn = (⟨#[100, 114, 111, 112]⟩ : ByteArray)
        · by_cases he2 : yw = 1
          · have HE2 := Lib.hid (wAt_none (HE.out.trans (by rw [decide_eq_true he, decide_eq_true he2]; rfl)))
            have he' := nm_drop_yes he
            have he2' : (yw == 1) = true := beq_iff_eq.2 he2
            clear he he2
            refine wp_region_still_tail 16 mixed (by kernel_rfl) ?_
            simp only [List.take_succ_cons, List.take_zero, List.drop_succ_cons, List.drop_zero]
            change wpStill _ _ V.drew _ _ _
            iterate 6 still_step
            iterate 3 (refine wpStill_step (fun K hK => ?_); go_simp; (first | rw [if_neg N0.out] | rw [if_pos (show (2 : Int) < (ml.length : Int) by have := N2.out; omega)]); refine hK _ ?_; clear hK K)
            iterate 1 (refine wpStill_step (fun K hK => ?_); go_simp; (first | rw [if_neg N0.out] | rw [if_pos (show (2 : Int) < (ml.length : Int) by have := N2.out; omega)]); (first | rw [if_pos N2.out] | rw [if_pos N3.out]); go_simp; refine hK _ ?_; clear hK K)
            iterate 3 (refine wpStill_step (fun K hK => ?_); go_simp; (first | rw [if_neg N0.out] | rw [if_pos (show (2 : Int) < (ml.length : Int) by have := N2.out; omega)]); refine hK _ ?_; clear hK K)
            have n0 := N0.out
            have n2 := N2.out
            have n3 := N3.out
            have n4 : decide ((ml.length : Int) ≤ 2) = false := decide_eq_false (by have := N2.out; omega)
            still_step
            clear n0 n2 n3 n4
            still_call (when_flip _ _ _)
            still_step
            refine wpStill_nil ?_
            change wpList _ _ _ _ _ V.drew
            go_wp2_with fail
            refine (require_ok _ _ _ _).mono ?_
            rintro e w' ⟨rfl, rfl⟩
            go_wp2
            go_roundw
            case rel => exact ⟨3, by omega, by go_num, firstE_step HPre.out HE2.out, HBV.out.drew⟩
            case measure => simp [intOf]
          · have HE2 := Lib.hid (wAt_some (HE.out.trans (by rw [decide_eq_false he2]; simp)))
            have HR3 := Lib.hid (HR2.out.trans (firstE_some (show 2 < 3 by decide) HPre.out HE2.out))
            have he' := nm_drop_yes he
            have he2' : (yw == 1) = false := beq_eq_false_iff_ne.2 he2
            clear he he2
            refine wp_region_still_tail 16 mixed (by kernel_rfl) ?_
            simp only [List.take_succ_cons, List.take_zero, List.drop_succ_cons, List.drop_zero]
            change wpStill _ _ V.drew _ _ _
            iterate 6 still_step
            iterate 3 (refine wpStill_step (fun K hK => ?_); go_simp; (first | rw [if_neg N0.out] | rw [if_pos (show (2 : Int) < (ml.length : Int) by have := N2.out; omega)]); refine hK _ ?_; clear hK K)
            iterate 1 (refine wpStill_step (fun K hK => ?_); go_simp; (first | rw [if_neg N0.out] | rw [if_pos (show (2 : Int) < (ml.length : Int) by have := N2.out; omega)]); (first | rw [if_pos N2.out] | rw [if_pos N3.out]); go_simp; refine hK _ ?_; clear hK K)
            iterate 3 (refine wpStill_step (fun K hK => ?_); go_simp; (first | rw [if_neg N0.out] | rw [if_pos (show (2 : Int) < (ml.length : Int) by have := N2.out; omega)]); refine hK _ ?_; clear hK K)
            have n0 := N0.out
            have n2 := N2.out
            have n3 := N3.out
            have n4 : decide ((ml.length : Int) ≤ 2) = false := decide_eq_false (by have := N2.out; omega)
            still_step
            clear n0 n2 n3 n4
            still_call (when_flip _ _ _)
            still_step
            refine wpStill_nil ?_
            change wpList _ _ _ _ _ V.drew
            go_wp2_with fail
            refine (require_bad 5 2 2 0 _ rfl).mono ?_
            rintro e w' ⟨rfl, rfl⟩
            go_wp2
            exact ⟨rfl, by rw [HR3.out]; rfl, below_step HW.out HBV.out.drew⟩
        · have HE2 := Lib.hid (wAt_some (HE.out.trans (by rw [decide_eq_false he]; simp)))
          have HR3 := Lib.hid (HR2.out.trans (firstE_some (show 2 < 3 by decide) HPre.out HE2.out))
          have he' := nm_drop_no he
          clear he
          refine wp_region_still_tail 16 mixed (by kernel_rfl) ?_
          simp only [List.take_succ_cons, List.take_zero, List.drop_succ_cons, List.drop_zero]
          change wpStill _ _ V.drew _ _ _
          iterate 6 still_step
          iterate 3 (refine wpStill_step (fun K hK => ?_); go_simp; (first | rw [if_neg N0.out] | rw [if_pos (show (2 : Int) < (ml.length : Int) by have := N2.out; omega)]); refine hK _ ?_; clear hK K)
          iterate 1 (refine wpStill_step (fun K hK => ?_); go_simp; (first | rw [if_neg N0.out] | rw [if_pos (show (2 : Int) < (ml.length : Int) by have := N2.out; omega)]); (first | rw [if_pos N2.out] | rw [if_pos N3.out]); go_simp; refine hK _ ?_; clear hK K)
          iterate 3 (refine wpStill_step (fun K hK => ?_); go_simp; (first | rw [if_neg N0.out] | rw [if_pos (show (2 : Int) < (ml.length : Int) by have := N2.out; omega)]); refine hK _ ?_; clear hK K)
          have n0 := N0.out
          have n2 := N2.out
          have n3 := N3.out
          have n4 : decide ((ml.length : Int) ≤ 2) = false := decide_eq_false (by have := N2.out; omega)
          still_step
          clear n0 n2 n3 n4
          still_call (when_flip _ _ _)
          still_step
          refine wpStill_nil ?_
          change wpList _ _ _ _ _ V.drew
          go_wp2_with fail
          refine (require_bad 5 2 2 0 _ rfl).mono ?_
          rintro e w' ⟨rfl, rfl⟩
          go_wp2
          exact ⟨rfl, by rw [HR3.out]; rfl, below_step HW.out HBV.out.drew⟩
end Go.Proofs.YtgfbikknkcaneaaGreat

