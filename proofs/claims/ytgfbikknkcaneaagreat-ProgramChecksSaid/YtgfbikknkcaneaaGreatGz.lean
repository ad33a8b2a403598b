/- The walks of the reference's check of the metadata, of parser, control flow and deparser together, and of Check. No condition but that the program lies in memory, its numbers are of their kinds, at most 90000 nodes. The walk of the reference's check of a whole program. No condition but that the program lies in memory, its numbers are of their kinds, at most 90000 nodes. The walk of the law ProgramChecks. No condition but that the program was read from memory. -/
import Derived.Test.YtgfbikknkcaneaaGreatGy
import Derived.Test.YtgfbikknkcaneaaGreatGc
import Derived.Test.YtgfbikknkcaneaaGreatGh
import Derived.Deep.RegionHeld3
namespace Go.Proofs.YtgfbikknkcaneaaGreat
open Go.RowKit

/-- the error of field i, or 0 -/
def fldE (l : List FieldD) (i : Nat) : Int := (fldM l i).getD 0
theorem fldE_none {l : List FieldD} {i : Nat} (h : fldM l i = none) : fldE l i = 0 := by rw [fldE, h]; rfl
theorem fldE_some {l : List FieldD} {i : Nat} {e : Int} (h : fldM l i = some e) : fldE l i = e := by rw [fldE, h]; rfl
theorem fldE_mAt (l : List FieldD) (i : Nat) (hi : i < l.length) : mAt l i = if fldE l i ≠ 0 then some ⟨fldE l i, 2, i, 0⟩ else none := by
  rcases h : fldM l i with _ | e
  · rw [mAt_none h, fldE_none h]; rfl
  · rw [mAt_some h, fldE_some h]
    have hn : e ≠ 0 := by
      rw [fldM_at l i hi] at h
      split at h
      · cases h; decide
      · split at h
        · cases h; decide
        · split at h
          · cases h; decide
          · cases h
    rw [if_pos hn]
set_option maxRecDepth 100000 in
set_option maxHeartbeats 8000000 in
theorem rfield_any (x : L FieldD) (i : Nat) (hi : i < x.l.length) (w : World) (h : LOk w 2 FieldD.cells x) (hn : ∀ f ∈ x.l, f.name.size ≤ maxLen) :
    Calls Tryz.prog 100 #[.slice x.A x.l.length x.c, .int .i64 i] w fun e w' => e = .returned (.int .i64 (fldE x.l i)) ∧ Below w.heap.size w w' := by
  obtain ⟨l, A0, c0⟩ := x
  have HX := Lib.hid h
  have HN := Lib.hid hn
  have hmx : l.length ≤ 9223372036854775807 := h.1
  clear h hn
  simp only at hi HN ⊢
  obtain ⟨g, of, hA, hall⟩ := FieldD.allA HX.out (show 0 < l.length by omega)
  simp only at hA hall
  subst hA
  have HAL := Lib.hid hall
  have HALi := Lib.hid (fun w' h => hall w' h i hi)
  have HF := Lib.hid (fldM_at l i hi)
  have HNk := Lib.hid (HN.out _ (List.getElem_mem hi))
  have HD := Lib.hid (dup_tells (f := FieldD.name) hi)
  have hil : (i : Int) < (l.length : Int) := by omega
  clear hall
  generalize l[i] = y at *
  obtain ⟨yn, yw⟩ := y
  simp only at HALi HF HNk HD
  obtain ⟨d0, d1⟩ := HALi.out w (Below.refl _ _)
  go_enter Tryz.func100, Tryz.ntmps100
  go_wp2_with fail
  refine (risIdent_any yn _ HNk.out).mono ?_
  rintro e w' ⟨rfl, rfl⟩
  cases h1 : identM yn.data.toList
  · have HR := Lib.hid (fldE_some (HF.out.trans (if_pos (show ident yn = false from h1))))
    go_wp2
    go_ret
    exact ⟨by rw [HR.out]; rfl, Below.refl _ _⟩
  have HF1 := Lib.hid (HF.out.trans (if_neg (show ¬ ident yn = false by rw [show ident yn = true from h1]; simp)))
  clear HF h1
  by_cases k1 : yw < 1
  · have HR := Lib.hid (fldE_some (HF1.out.trans (if_pos (okW_not.2 (.inl k1)))))
    go_wp2
    go_ret
    exact ⟨by rw [HR.out]; rfl, Below.refl _ _⟩
  by_cases k2 : 32 < yw
  · have HR := Lib.hid (fldE_some (HF1.out.trans (if_pos (okW_not.2 (.inr k2)))))
    go_wp2
    go_ret
    exact ⟨by rw [HR.out]; rfl, Below.refl _ _⟩
  have HF2 := Lib.hid (HF1.out.trans (if_neg (by rw [okW_iff.2 ⟨by omega, by omega⟩]; simp)))
  clear HF1
  go_wp2
  clear d0 d1
  go_loopw [5] (fun iv wr => ∃ k : Nat, k ≤ i ∧ iv = .int .i64 k ∧ Hid (∀ j (hj : j < l.length), j < k → l[j].name ≠ yn) ∧ Below w.heap.size w wr) (fun k _ => i - (intOf k).toNat)
  case atStart => exact ⟨0, Nat.zero_le _, rfl, Lib.hid (fun j _ hj => absurd hj (Nat.not_lt_zero _)), Below.refl _ _⟩
  case round =>
  obtain ⟨k, hk, rfl, HK, HB⟩ := hrel
  obtain ⟨d0, d1⟩ := HALi.out _ HB
  by_cases hki : k < i
  · have hkl : k < l.length := by omega
    have hkl' : (k : Int) < (l.length : Int) := by omega
    obtain ⟨e0, e1⟩ := HAL.out _ HB k hkl
    have HY : Hid (l[k].name = yn → dupB (l.map FieldD.name) i = true) := Lib.hid (fun e => HD.out.1 k hkl hki e)
    have HZ : Hid (l[k].name ≠ yn → ∀ j (hj : j < l.length), j < k + 1 → l[j].name ≠ yn) := Lib.hid (fun hne => pre_ne (f := fun _ (a : FieldD) => a.name ≠ yn) HK.out hne)
    generalize l[k].name = t at *
    by_cases ht : t = yn
    · have HR := Lib.hid (fldE_some (HF2.out.trans (if_pos (HY.out ht))))
      have ht' := toList_true ht
      clear ht HY HZ
      go_wp2
      go_quiet (fail)
      go_wp2
      go_ret
      exact ⟨by rw [HR.out]; rfl, below_drewN HB _⟩
    · have HZ2 := Lib.hid (HZ.out ht)
      have ht' := toList_false ht
      clear ht HY HZ
      go_wp2
      go_quiet (fail)
      go_wp2
      go_roundw
      case rel => exact ⟨k + 1, by omega, by go_num, HZ2, below_drewN HB _⟩
      case measure => simp [intOf]; omega
  · have e : k = i := by omega
    subst e
    have HR := Lib.hid (fldE_none (HF2.out.trans (if_neg (by rw [HD.out.2 HK.out]; simp))))
    go_wp2
    go_ret
    exact ⟨by rw [HR.out]; rfl, HB⟩

theorem isWant_at {l : List FieldD} {k : Nat} (h : k < l.length) (h3 : k < metaWant.length) : isWant l k = true ↔ l[k] = metaWant[k] := by
  rw [isWant, List.getElem?_eq_getElem h, List.getElem?_eq_getElem h3]
  simp only [Bool.and_eq_true, decide_eq_true_eq]
  constructor
  · rintro ⟨h1, h2⟩
    have : ∀ a b : FieldD, a.name = b.name → a.width = b.width → a = b := by
      rintro ⟨a, b⟩ ⟨c, d⟩ rfl rfl; rfl
    exact this _ _ h1 h2
  · intro e
    rw [e]; exact ⟨rfl, rfl⟩
theorem want_lok (w : World) : LOk (w.alloc (.cells #[.string ⟨#[105, 110]⟩, .int .i64 8, .string ⟨#[111, 117, 116]⟩, .int .i64 8, .string ⟨#[100, 114, 111, 112]⟩, .int .i64 1] 63)) 2 FieldD.cells ⟨metaWant, some ⟨w.heap.size, 0, none⟩, 3⟩ := by
  refine ⟨by unfold maxLen metaWant; simp, .inr ⟨w.heap.size, 0, rfl, by simp, fun i hi j hj => ?_⟩⟩
  have hi3 : i < 3 := hi
  match i, hi3, j, hj with
  | 0, _, 0, _ => simp [metaWant, FieldD.cells]
  | 0, _, 1, _ => simp [metaWant, FieldD.cells]
  | 1, _, 0, _ => simp [metaWant, FieldD.cells]
  | 1, _, 1, _ => simp [metaWant, FieldD.cells]
  | 2, _, 0, _ => simp [metaWant, FieldD.cells]
  | 2, _, 1, _ => simp [metaWant, FieldD.cells]
set_option maxRecDepth 100000 in
set_option maxHeartbeats 16000000 in
theorem rmetadata_any (p : ProgD) (w : World) (o : ProgOk w p) :
    Calls Tryz.prog 44 #[.agg (progCells p)] w fun e w' => e = .returned (dgV (metaM p)) ∧ Below w.heap.size w w' := by
  have HO := Lib.hid o
  have HR := Lib.hid (metaM_eq p)
  obtain ⟨W, hW, hw, HB, hp, hQ⟩ := boxD w p
  have HW := Lib.hid hw
  have HQ := Lib.hid hQ
  have HX := Lib.hid (o.metadata.below hw (Nat.le_refl _))
  have HN : Hid (∀ f ∈ p.metadata.l, f.name.size ≤ maxLen) := Lib.hid o.mnames
  have HS := Lib.hid (fldE_mAt p.metadata.l)
  clear hQ o hw
  simp only [progCells] at hp hW ⊢
  generalize hx : p.metadata = x at *
  clear hx
  obtain ⟨l, A0, c0⟩ := x
  simp only at HR HX hp HN HS ⊢
  have hmx : l.length ≤ 9223372036854775807 := HX.out.1
  by_cases h12 : 12 < l.length
  · replace HR := Lib.hid (HR.out.trans (if_pos h12))
    go_enter Tryz.func44, Tryz.ntmps44
    go_upto_region 1 with fail
    rw [← hW]
    clear hW
    have hp3 := hp W HB
    go_wp2_with fail
    refine (rat_any 12 2 0 0 _).mono ?_
    rintro e w1 ⟨rfl, hbN⟩
    replace HB := below_step (by first | exact HB | exact below_alloc HB _ | exact below_alloc (below_alloc HB _) _ | exact below_alloc (below_alloc (below_alloc HB _) _) _) hbN
    clear hbN
    replace hp3 := hp _ HB
    go_wp2
    refine bodyPost_ret (v := .agg #[.int .i64 (12), .int .i64 (2), .int .i64 (0), .int .i64 (0)]) ?_ rfl ?_
    · exact results_cell_row (fn := Tryz.f44) (p := 2) (ty := 45) rfl _ _ (w.heap.size + 1) 45 #[.int .i64 (12), .int .i64 (2), .int .i64 (0), .int .i64 (0)] (0, 0) _ rfl (put_diag (HQ.out _ HB) _ _ _ _) Tryz.underlying45 rfl (by kernel_rfl)
    · exact ⟨by first | (rw [HR.out]; done) | (rw [HR.out]; rfl), put_below (below_step HW.out HB) (Nat.le_succ _) _ _ _ _⟩
  replace HR := Lib.hid (HR.out.trans (if_neg h12))
  have h12' : l.length ≤ 12 := by omega
  clear h12
  have HB1 := Lib.hid HB
  go_enter Tryz.func44, Tryz.ntmps44
  go_upto_region 1 with fail
  rw [← hW]
  clear hW
  have hp3 := hp W HB
  go_wp2
  clear HB hp3
  go_loopw [3, 4] (fun iv _ wr => ∃ i : Nat, i ≤ l.length ∧ iv = .int .i64 i ∧ (∀ j, j < i → mAt l j = none) ∧ Below W.heap.size W wr) (fun i _ _ => l.length - (intOf i).toNat)
  case atStart => exact ⟨0, Nat.zero_le _, rfl, fun j hj => absurd hj (Nat.not_lt_zero _), HB1.out⟩
  case round =>
  obtain ⟨i, hi, rfl, hpre, HB⟩ := hrel
  have HPre := Lib.hid hpre
  have hp3 := hp wr HB
  clear hpre HB1
  by_cases hlt : i < l.length
  · have HE := Lib.hid (HS.out i hlt)
    have HFk := Lib.hid (fun u (hb : Below W.heap.size W u) => rfield_any ⟨l, A0, c0⟩ i hlt u (HX.out.below hb (Nat.le_refl _)) HN.out)
    have hlt' : (i : Int) < (l.length : Int) := by omega
    simp only at HFk
    go_wp2_with fail
    refine (HFk.out _ (by first | exact HB | exact below_alloc HB _ | exact below_alloc (below_alloc HB _) _ | exact below_alloc (below_alloc (below_alloc HB _) _) _)).mono ?_
    rintro e w1 ⟨rfl, hbN⟩
    replace HB := below_step (by first | exact HB | exact below_alloc HB _ | exact below_alloc (below_alloc HB _) _ | exact below_alloc (below_alloc (below_alloc HB _) _) _) hbN
    clear hbN
    generalize fldE l i = c at *
    clear hp3
    have hp3 := hp _ HB
    by_cases k1 : c = 0
    · subst k1
      have HP2 := Lib.hid (pre_step HPre.out (HE.out.trans (if_neg (fun h => h rfl))))
      go_wp2
      go_roundw
      case rel => exact ⟨i + 1, by omega, by go_num, HP2.out, HB⟩
      case measure => simp [intOf]; omega
    · have k1' : (c == 0) = false := beq_eq_false_iff_ne.2 k1
      replace HR := Lib.hid (HR.out.trans (show _ = some (⟨c, 2, i, 0⟩ : DiagD) by rw [firstE_some hlt HPre.out (HE.out.trans (if_pos k1))]))
      clear k1
      go_wp2_with fail
      refine (rat_any c 2 i 0 _).mono ?_
      rintro e w2 ⟨rfl, hbN⟩
      replace HB := below_step (by first | exact HB | exact below_alloc HB _ | exact below_alloc (below_alloc HB _) _ | exact below_alloc (below_alloc (below_alloc HB _) _) _) hbN
      clear hbN
      clear hp3
      have hp3 := hp _ HB
      go_wp2
      refine bodyPost_ret (v := .agg #[.int .i64 (c), .int .i64 (2), .int .i64 (i), .int .i64 (0)]) ?_ rfl ?_
      · exact results_cell_row (fn := Tryz.f44) (p := 2) (ty := 45) rfl _ _ (w.heap.size + 1) 45 #[.int .i64 (c), .int .i64 (2), .int .i64 (i), .int .i64 (0)] (0, 0) _ rfl (put_diag (HQ.out _ HB) _ _ _ _) Tryz.underlying45 rfl (by kernel_rfl)
      · exact ⟨by first | (rw [HR.out]; done) | (rw [HR.out]; rfl), put_below (below_step HW.out HB) (Nat.le_succ _) _ _ _ _⟩
  have e : i = l.length := by omega
  have HR2 := Lib.hid (HR.out.trans (show _ = firstE 3 (wAt l) by rw [firstE_none (by rw [← e]; exact HPre.out)]))
  clear HR
  have hlt' : ¬ (i : Int) < (l.length : Int) := by omega
  obtain ⟨V, hV⟩ : ∃ V, V = wr.alloc (.cells #[.string ⟨#[105, 110]⟩, .int .i64 8, .string ⟨#[111, 117, 116]⟩, .int .i64 8, .string ⟨#[100, 114, 111, 112]⟩, .int .i64 1] 63) := ⟨_, rfl⟩
  have HBV : Hid (Below W.heap.size W V) := Lib.hid (by rw [hV]; exact below_alloc HB _)
  have HWn : Hid (LOk V 2 FieldD.cells ⟨metaWant, some ⟨wr.heap.size, 0, none⟩, 3⟩) := Lib.hid (by rw [hV]; exact want_lok wr)
  go_wp2
  rw [← hV]
  clear hV HB hp3 HPre HS hlt e hlt'
  generalize wr.heap.size = kv at *
  go_loopw [6] (fun iv wr => ∃ i : Nat, i ≤ 3 ∧ iv = .int .i64 i ∧ (∀ j, j < i → wAt l j = none) ∧ Below V.heap.size V wr) (fun i _ => 3 - (intOf i).toNat)
  case atStart => exact ⟨0, Nat.zero_le _, rfl, fun j hj => absurd hj (Nat.not_lt_zero _), Below.refl _ _⟩
  case round =>
  obtain ⟨k, hk, rfl, hpre, HB2⟩ := hrel
  have HB := below_step HBV.out HB2
  have HPre := Lib.hid hpre
  have hp3 := hp _ HB
  clear hpre
  by_cases hk3 : k < 3
  case neg =>
    have e : k = 3 := by omega
    subst e
    have HR : Hid (metaM p = none) := Lib.hid (HR2.out.trans (firstE_none HPre.out))
    clear hk hk3
    go_wp2
    refine bodyPost_ret (v := .agg #[.int .i64 (0), .int .i64 (0), .int .i64 (0), .int .i64 (0)]) ?_ rfl ?_
    · exact results_cell_row (fn := Tryz.f44) (p := 2) (ty := 45) rfl _ _ (w.heap.size + 1) 45 #[.int .i64 (0), .int .i64 (0), .int .i64 (0), .int .i64 (0)] (0, 0) _ rfl (put_diag (HQ.out _ HB) _ _ _ _) Tryz.underlying45 rfl (by kernel_rfl)
    · exact ⟨by first | (rw [HR.out]; done) | (rw [HR.out]; rfl), put_below (below_step HW.out HB) (Nat.le_succ _) _ _ _ _⟩
  have hk3' : (k : Int) < 3 := by omega
  obtain ⟨gw, ow, hAw, f0, f1⟩ := FieldD.at (HWn.out.below HB2 (Nat.le_refl _)) (show k < metaWant.length from hk3)
  simp only at hAw f0 f1
  obtain ⟨rfl, rfl⟩ : kv = gw ∧ 0 = ow := by cases hAw; exact ⟨rfl, rfl⟩
  clear hAw
  rw [Nat.zero_add] at f0 f1
  by_cases hkl : k < l.length
  case neg =>
    have HR := Lib.hid (HR2.out.trans (firstE_some hk3 HPre.out (wAt_some (want_out (by omega)))))
    have b1 : decide ((l.length : Int) ≤ (k : Int)) = true := decide_eq_true (by omega)
    have b2 : (l.length : Int) ≤ (k : Int) := by omega
    go_wp2
    go_quiet (fail)
    replace HB := below_drewN HB nq
    clear hp3
    generalize World.drewN wr nq = wq at *
    have hp3 := hp _ HB
    go_wp2_with fail
    refine (rat_any 5 2 k 0 _).mono ?_
    rintro e w2 ⟨rfl, hbN⟩
    replace HB := below_step (by first | exact HB | exact below_alloc HB _ | exact below_alloc (below_alloc HB _) _ | exact below_alloc (below_alloc (below_alloc HB _) _) _) hbN
    clear hbN
    clear hp3
    have hp3 := hp _ HB
    go_wp2
    refine bodyPost_ret (v := .agg #[.int .i64 (5), .int .i64 (2), .int .i64 (k), .int .i64 (0)]) ?_ rfl ?_
    · exact results_cell_row (fn := Tryz.f44) (p := 2) (ty := 45) rfl _ _ (w.heap.size + 1) 45 #[.int .i64 (5), .int .i64 (2), .int .i64 (k), .int .i64 (0)] (0, 0) _ rfl (put_diag (HQ.out _ HB) _ _ _ _) Tryz.underlying45 rfl (by kernel_rfl)
    · exact ⟨by first | (rw [HR.out]; done) | (rw [HR.out]; rfl), put_below (below_step HW.out HB) (Nat.le_succ _) _ _ _ _⟩
  obtain ⟨g, of, hA, e0, e1⟩ := FieldD.at (HX.out.below HB (Nat.le_refl _)) hkl
  simp only at hA
  subst hA
  have HI := Lib.hid (isWant_at hkl (show k < metaWant.length from hk3))
  have hkl' : (k : Int) < (l.length : Int) := by omega
  have b1 : decide ((l.length : Int) ≤ (k : Int)) = false := decide_eq_false (by omega)
  simp only at e0 e1
  generalize l[k] = a at *
  generalize metaWant[k]'hk3 = b at *
  obtain ⟨bb, hb0, hbb⟩ := neq_field a b
  have HBB := Lib.hid hb0
  clear hb0
  cases bb with
  | true =>
    have HR := Lib.hid (HR2.out.trans (firstE_some hk3 HPre.out (wAt_some (by
      rw [← Bool.not_eq_true, HI.out]
      intro e
      have := HBB.out.2 e
      cases this))))
    go_wp2
    go_quiet (fail)
    replace HB := below_drewN HB nq
    clear hp3
    generalize World.drewN wr nq = wq at *
    have hp3 := hp _ HB
    go_wp2_with fail
    refine (rat_any 5 2 k 0 _).mono ?_
    rintro e w2 ⟨rfl, hbN⟩
    replace HB := below_step (by first | exact HB | exact below_alloc HB _ | exact below_alloc (below_alloc HB _) _ | exact below_alloc (below_alloc (below_alloc HB _) _) _) hbN
    clear hbN
    clear hp3
    have hp3 := hp _ HB
    go_wp2
    refine bodyPost_ret (v := .agg #[.int .i64 (5), .int .i64 (2), .int .i64 (k), .int .i64 (0)]) ?_ rfl ?_
    · exact results_cell_row (fn := Tryz.f44) (p := 2) (ty := 45) rfl _ _ (w.heap.size + 1) 45 #[.int .i64 (5), .int .i64 (2), .int .i64 (k), .int .i64 (0)] (0, 0) _ rfl (put_diag (HQ.out _ HB) _ _ _ _) Tryz.underlying45 rfl (by kernel_rfl)
    · exact ⟨by first | (rw [HR.out]; done) | (rw [HR.out]; rfl), put_below (below_step HW.out HB) (Nat.le_succ _) _ _ _ _⟩
  | false =>
    have HP2 := Lib.hid (pre_step HPre.out (wAt_none (HI.out.2 (HBB.out.1 rfl))))
    go_wp2
    go_quiet (fail)
    go_wp2
    go_roundw
    case rel => exact ⟨k + 1, by omega, by go_num, HP2.out, below_drewN HB2 _⟩
    case measure => simp [intOf]; omega

theorem flowM_eq (p : ProgD) : flowM p = if (parserM p).2.2 ≠ 0 then some ⟨(parserM p).2.2, 6, (parserM p).1, (parserM p).2.1⟩
  else if (ctlM p).2 ≠ 0 then some ⟨(ctlM p).2, 7, (ctlM p).1, 0⟩
  else if (depM p).2 ≠ 0 then some ⟨(depM p).2, 8, (depM p).1, 0⟩ else none := rfl
set_option maxRecDepth 100000 in
set_option maxHeartbeats 8000000 in
theorem rcode_any (p : ProgD) (w : World) (o : ProgOk w p) (hc : ∀ s ∈ p.states.l, ∀ c ∈ s.cases.l, (Lit.int .u32 c.value).wf = true ∧ (Lit.int .u32 c.mask).wf = true) (hN : (presM p.control.l).length ≤ 90000) :
    Calls Tryz.prog 48 #[.agg (progCells p)] w fun e w' => e = .returned (dgV (flowM p)) ∧ Below w.heap.size w w' := by
  have HO := Lib.hid o
  have HC := Lib.hid hc
  have HN := Lib.hid hN
  have HR := Lib.hid (flowM_eq p)
  obtain ⟨W, hW, hw, HB, hp, hQ⟩ := boxD w p
  have HW := Lib.hid hw
  have HQ := Lib.hid hQ
  have H1 := Lib.hid (fun u (hb : Below W.heap.size W u) => rparserCheck_any p u (HO.out.below (below_step HW.out hb)) HC.out)
  have H2 := Lib.hid (fun u (hb : Below W.heap.size W u) => rcontrolCheck_any p u (HO.out.below (below_step HW.out hb)) HN.out)
  have H3 := Lib.hid (fun u (hb : Below W.heap.size W u) => rdepCheck_any p u (HO.out.below (below_step HW.out hb)))
  clear hQ o hw hc hN
  generalize flowM p = fm at *
  generalize parserM p = r1 at *
  generalize ctlM p = r2 at *
  generalize depM p = r3 at *
  obtain ⟨a1, b1, c1⟩ := r1
  obtain ⟨a2, c2⟩ := r2
  obtain ⟨a3, c3⟩ := r3
  simp only at HR H1 H2 H3
  go_enter Tryz.func48, Tryz.ntmps48
  go_upto_region 1 with fail
  rw [← hW]
  clear hW
  have hp3 := hp W HB
  go_wp2_with fail
  refine (H1.out _ (by first | exact HB | exact below_alloc HB _ | exact below_alloc (below_alloc HB _) _ | exact below_alloc (below_alloc (below_alloc HB _) _) _)).mono ?_
  rintro e w1 ⟨rfl, hbN⟩
  replace HB := below_step (by first | exact HB | exact below_alloc HB _ | exact below_alloc (below_alloc HB _) _ | exact below_alloc (below_alloc (below_alloc HB _) _) _) hbN
  clear hbN
  clear hp3
  have hp3 := hp _ HB
  by_cases k1 : c1 = 0
  case neg =>
    have k1' : (c1 == 0) = false := beq_eq_false_iff_ne.2 k1
    replace HR := Lib.hid (HR.out.trans (if_pos k1))
    clear k1
    go_wp2_with fail
    refine (rat_any c1 6 a1 b1 _).mono ?_
    rintro e w2 ⟨rfl, hbN⟩
    replace HB := below_step (by first | exact HB | exact below_alloc HB _ | exact below_alloc (below_alloc HB _) _ | exact below_alloc (below_alloc (below_alloc HB _) _) _) hbN
    clear hbN
    clear hp3
    have hp3 := hp _ HB
    go_wp2
    refine bodyPost_ret (v := .agg #[.int .i64 (c1), .int .i64 (6), .int .i64 (a1), .int .i64 (b1)]) ?_ rfl ?_
    · exact results_cell_row (fn := Tryz.f48) (p := 2) (ty := 45) rfl _ _ (w.heap.size + 1) 45 #[.int .i64 (c1), .int .i64 (6), .int .i64 (a1), .int .i64 (b1)] (0, 0) _ rfl (put_diag (HQ.out _ HB) _ _ _ _) Tryz.underlying45 rfl (by kernel_rfl)
    · exact ⟨by first | (rw [HR.out]; done) | (rw [HR.out]; rfl), put_below (below_step HW.out HB) (Nat.le_succ _) _ _ _ _⟩
  subst k1
  replace HR := Lib.hid (HR.out.trans (if_neg (fun h => h rfl)))
  go_wp2_with fail
  refine (H2.out _ (by first | exact HB | exact below_alloc HB _ | exact below_alloc (below_alloc HB _) _ | exact below_alloc (below_alloc (below_alloc HB _) _) _)).mono ?_
  rintro e w2 ⟨rfl, hbN⟩
  replace HB := below_step (by first | exact HB | exact below_alloc HB _ | exact below_alloc (below_alloc HB _) _ | exact below_alloc (below_alloc (below_alloc HB _) _) _) hbN
  clear hbN
  clear hp3
  have hp3 := hp _ HB
  by_cases k1 : c2 = 0
  case neg =>
    have k1' : (c2 == 0) = false := beq_eq_false_iff_ne.2 k1
    replace HR := Lib.hid (HR.out.trans (if_pos k1))
    clear k1
    go_wp2_with fail
    refine (rat_any c2 7 a2 0 _).mono ?_
    rintro e w3 ⟨rfl, hbN⟩
    replace HB := below_step (by first | exact HB | exact below_alloc HB _ | exact below_alloc (below_alloc HB _) _ | exact below_alloc (below_alloc (below_alloc HB _) _) _) hbN
    clear hbN
    clear hp3
    have hp3 := hp _ HB
    go_wp2
    refine bodyPost_ret (v := .agg #[.int .i64 (c2), .int .i64 (7), .int .i64 (a2), .int .i64 (0)]) ?_ rfl ?_
    · exact results_cell_row (fn := Tryz.f48) (p := 2) (ty := 45) rfl _ _ (w.heap.size + 1) 45 #[.int .i64 (c2), .int .i64 (7), .int .i64 (a2), .int .i64 (0)] (0, 0) _ rfl (put_diag (HQ.out _ HB) _ _ _ _) Tryz.underlying45 rfl (by kernel_rfl)
    · exact ⟨by first | (rw [HR.out]; done) | (rw [HR.out]; rfl), put_below (below_step HW.out HB) (Nat.le_succ _) _ _ _ _⟩
  subst k1
  replace HR := Lib.hid (HR.out.trans (if_neg (fun h => h rfl)))
  go_wp2_with fail
  refine (H3.out _ (by first | exact HB | exact below_alloc HB _ | exact below_alloc (below_alloc HB _) _ | exact below_alloc (below_alloc (below_alloc HB _) _) _)).mono ?_
  rintro e w3 ⟨rfl, hbN⟩
  replace HB := below_step (by first | exact HB | exact below_alloc HB _ | exact below_alloc (below_alloc HB _) _ | exact below_alloc (below_alloc (below_alloc HB _) _) _) hbN
  clear hbN
  clear hp3
  have hp3 := hp _ HB
  by_cases k1 : c3 = 0
  case neg =>
    have k1' : (c3 == 0) = false := beq_eq_false_iff_ne.2 k1
    replace HR := Lib.hid (HR.out.trans (if_pos k1))
    clear k1
    go_wp2_with fail
    refine (rat_any c3 8 a3 0 _).mono ?_
    rintro e w4 ⟨rfl, hbN⟩
    replace HB := below_step (by first | exact HB | exact below_alloc HB _ | exact below_alloc (below_alloc HB _) _ | exact below_alloc (below_alloc (below_alloc HB _) _) _) hbN
    clear hbN
    clear hp3
    have hp3 := hp _ HB
    go_wp2
    refine bodyPost_ret (v := .agg #[.int .i64 (c3), .int .i64 (8), .int .i64 (a3), .int .i64 (0)]) ?_ rfl ?_
    · exact results_cell_row (fn := Tryz.f48) (p := 2) (ty := 45) rfl _ _ (w.heap.size + 1) 45 #[.int .i64 (c3), .int .i64 (8), .int .i64 (a3), .int .i64 (0)] (0, 0) _ rfl (put_diag (HQ.out _ HB) _ _ _ _) Tryz.underlying45 rfl (by kernel_rfl)
    · exact ⟨by first | (rw [HR.out]; done) | (rw [HR.out]; rfl), put_below (below_step HW.out HB) (Nat.le_succ _) _ _ _ _⟩
  subst k1
  replace HR := Lib.hid (HR.out.trans (if_neg (fun h => h rfl)))
  go_wp2
  refine bodyPost_ret (v := .agg #[.int .i64 (0), .int .i64 (0), .int .i64 (0), .int .i64 (0)]) ?_ rfl ?_
  · exact results_cell_row (fn := Tryz.f48) (p := 2) (ty := 45) rfl _ _ (w.heap.size + 1) 45 #[.int .i64 (0), .int .i64 (0), .int .i64 (0), .int .i64 (0)] (0, 0) _ rfl (put_diag (HQ.out _ HB) _ _ _ _) Tryz.underlying45 rfl (by kernel_rfl)
  · exact ⟨by first | (rw [HR.out]; done) | (rw [HR.out]; rfl), put_below (below_step HW.out HB) (Nat.le_succ _) _ _ _ _⟩
end Go.Proofs.YtgfbikknkcaneaaGreat
namespace Go.Proofs.YtgfbikknkcaneaaGreat
open Go.RowKit

theorem code_first {f : Nat → Option DiagD} {n : Nat} (h : ∀ k d, k < n → f k = some d → d.code ≠ 0) : ∀ d, firstE n f = some d → d.code ≠ 0 := by
  intro d he
  obtain ⟨i, hi, h1, _⟩ := firstE_ex he
  exact h i d hi h1
theorem code_lim {p : ProgD} : ∀ d, limM p = some d → d.code ≠ 0 := by
  intro d h
  unfold limM at h
  split at h
  · cases h; first | decide | (show (6 : Int) ≠ 0; decide) | (show (7 : Int) ≠ 0; decide) | (show (5 : Int) ≠ 0; decide)
  split at h
  · cases h; first | decide | (show (6 : Int) ≠ 0; decide) | (show (7 : Int) ≠ 0; decide) | (show (5 : Int) ≠ 0; decide)
  split at h
  · cases h; first | decide | (show (6 : Int) ≠ 0; decide) | (show (7 : Int) ≠ 0; decide) | (show (5 : Int) ≠ 0; decide)
  split at h
  · cases h; first | decide | (show (6 : Int) ≠ 0; decide) | (show (7 : Int) ≠ 0; decide) | (show (5 : Int) ≠ 0; decide)
  split at h
  · cases h; first | decide | (show (6 : Int) ≠ 0; decide) | (show (7 : Int) ≠ 0; decide) | (show (5 : Int) ≠ 0; decide)
  cases h
theorem code_hdrs {p : ProgD} : ∀ d, hdrsM p = some d → d.code ≠ 0 := code_first fun k d hk h => by
  rw [hdrAtM_at _ k hk] at h
  split at h
  · cases h; assumption
  split at h
  · cases h; first | decide | (show (6 : Int) ≠ 0; decide) | (show (7 : Int) ≠ 0; decide) | (show (5 : Int) ≠ 0; decide)
  split at h
  · cases h; first | decide | (show (6 : Int) ≠ 0; decide) | (show (7 : Int) ≠ 0; decide) | (show (5 : Int) ≠ 0; decide)
  cases h
theorem code_meta {p : ProgD} : ∀ d, metaM p = some d → d.code ≠ 0 := by
  intro d h
  rw [metaM_eq] at h
  split at h
  · cases h; first | decide | (show (6 : Int) ≠ 0; decide) | (show (7 : Int) ≠ 0; decide) | (show (5 : Int) ≠ 0; decide)
  rcases hf : firstE p.metadata.l.length (mAt p.metadata.l) with _ | x
  · rw [hf] at h
    simp only at h
    refine code_first (f := wAt p.metadata.l) (n := 3) (fun k d hk h => ?_) d h
    unfold wAt at h
    split at h
    · cases h; first | decide | (show (6 : Int) ≠ 0; decide) | (show (7 : Int) ≠ 0; decide) | (show (5 : Int) ≠ 0; decide)
    · cases h
  · rw [hf] at h
    simp only [Option.some.injEq] at h
    subst h
    refine code_first (f := mAt p.metadata.l) (fun k d hk h => ?_) x hf
    rw [fldE_mAt _ k hk] at h
    split at h
    · cases h; assumption
    · cases h
theorem code_regs {p : ProgD} : ∀ d, regsM p = some d → d.code ≠ 0 := code_first fun k d hk h => by
  rw [regAtM_at _ k hk] at h
  split at h
  · cases h; assumption
  split at h
  · cases h; first | decide | (show (6 : Int) ≠ 0; decide) | (show (7 : Int) ≠ 0; decide) | (show (5 : Int) ≠ 0; decide)
  cases h
theorem code_acts {p : ProgD} : ∀ d, actsM p = some d → d.code ≠ 0 := code_first fun k d hk h => by
  rw [actAtM_at _ k hk] at h
  split at h
  · cases h; assumption
  split at h
  · cases h; first | decide | (show (6 : Int) ≠ 0; decide) | (show (7 : Int) ≠ 0; decide) | (show (5 : Int) ≠ 0; decide)
  cases h
theorem code_tabs {p : ProgD} : ∀ d, tabsM p = some d → d.code ≠ 0 := code_first fun k d hk h => by
  rw [tabAtM_at _ k hk] at h
  split at h
  · cases h; assumption
  split at h
  · cases h; first | decide | (show (6 : Int) ≠ 0; decide) | (show (7 : Int) ≠ 0; decide) | (show (5 : Int) ≠ 0; decide)
  cases h
theorem code_flow {p : ProgD} : ∀ d, flowM p = some d → d.code ≠ 0 := by
  intro d h
  rw [flowM_eq] at h
  split at h
  · cases h; assumption
  split at h
  · cases h; assumption
  split at h
  · cases h; assumption
  cases h
/-- what a stage of the check hands on -/
theorem stage {d : Option DiagD} (hc : ∀ x, d = some x → x.code ≠ 0) : ((d.getD noDiag).code = 0 → d = none) ∧ ((d.getD noDiag).code ≠ 0 → d = some (d.getD noDiag)) := by
  rcases d with _ | x
  · exact ⟨fun _ => rfl, fun h => absurd rfl h⟩
  · exact ⟨fun h => absurd h (hc x rfl), fun _ => rfl⟩
theorem blk_facts {w : World} {k : Nat} {t : TypeId} {a b c d : Value} (h : Blk w k t #[a, b, c, d]) :
    w.cell? ⟨k, 0, none⟩ = some a ∧ w.cell? ⟨k, 1, none⟩ = some b ∧ w.cell? ⟨k, 2, none⟩ = some c ∧ w.cell? ⟨k, 3, none⟩ = some d ∧ ∀ i, w.frozen? ⟨k, i, none⟩ = false :=
  ⟨h.cell 0, h.cell 1, h.cell 2, h.cell 3, h.frozen⟩
set_option maxRecDepth 100000 in
set_option maxHeartbeats 16000000 in
theorem rcheck_any (p : ProgD) (w : World) (o : ProgOk w p) (hcp : ProgCap p) (hN : (presM p.control.l).length ≤ 90000) :
    Calls Tryz.prog 17 #[.agg (progCells p)] w fun e w' => e = .returned (dgV (checkM p)) ∧ Below w.heap.size w w' := by
  have HO := Lib.hid o
  have HCp := Lib.hid hcp
  have HN := Lib.hid hN
  have HC := Lib.hid (show checkM p = orE (limM p) (orE (hdrsM p) (orE (metaM p) (orE (regsM p) (orE (actsM p) (orE (tabsM p) (flowM p)))))) from rfl)
  obtain ⟨W, hW, hw, HB, hp, hQ⟩ := boxD w p
  have HW := Lib.hid hw
  have HQ := Lib.hid hQ
  have HS1 := Lib.hid (stage (code_lim (p := p)))
  have HS2 := Lib.hid (stage (code_hdrs (p := p)))
  have HS3 := Lib.hid (stage (code_meta (p := p)))
  have HS4 := Lib.hid (stage (code_regs (p := p)))
  have HS5 := Lib.hid (stage (code_acts (p := p)))
  have HS6 := Lib.hid (stage (code_tabs (p := p)))
  have HS7 := Lib.hid (stage (code_flow (p := p)))
  have HE1 := Lib.hid (fun u (hb : Below W.heap.size W u) => rwhole_any p u (HO.out.below (below_step HW.out hb)))
  have HE2 := Lib.hid (fun u (hb : Below W.heap.size W u) => rheaders_any p u (HO.out.below (below_step HW.out hb)))
  have HE3 := Lib.hid (fun u (hb : Below W.heap.size W u) => rmetadata_any p u (HO.out.below (below_step HW.out hb)))
  have HE4 := Lib.hid (fun u (hb : Below W.heap.size W u) => rregisters_any p u (HO.out.below (below_step HW.out hb)))
  have HE5 := Lib.hid (fun u (hb : Below W.heap.size W u) => ractions_any p u (HO.out.below (below_step HW.out hb)))
  have HE6 := Lib.hid (fun u (hb : Below W.heap.size W u) => rtables_any p u (HO.out.below (below_step HW.out hb)) HCp.out.args)
  have HE7 := Lib.hid (fun u (hb : Below W.heap.size W u) => rcode_any p u (HO.out.below (below_step HW.out hb)) HCp.out.cases HN.out)
  clear hQ o hw hcp hN
  generalize checkM p = cm at *
  generalize limM p = d1 at *
  generalize hdrsM p = d2 at *
  generalize metaM p = d3 at *
  generalize regsM p = d4 at *
  generalize actsM p = d5 at *
  generalize tabsM p = d6 at *
  generalize flowM p = d7 at *
  have HD7 := Lib.hid (show dgV d7 = (d7.getD noDiag).val from rfl)
  unfold dgV at HE1 HE2 HE3 HE4 HE5 HE6 HE7
  generalize d1.getD noDiag = x1 at *
  obtain ⟨c1, q1, i1, s1⟩ := x1
  generalize d2.getD noDiag = x2 at *
  obtain ⟨c2, q2, i2, s2⟩ := x2
  generalize d3.getD noDiag = x3 at *
  obtain ⟨c3, q3, i3, s3⟩ := x3
  generalize d4.getD noDiag = x4 at *
  obtain ⟨c4, q4, i4, s4⟩ := x4
  generalize d5.getD noDiag = x5 at *
  obtain ⟨c5, q5, i5, s5⟩ := x5
  generalize d6.getD noDiag = x6 at *
  obtain ⟨c6, q6, i6, s6⟩ := x6
  generalize d7.getD noDiag = x7 at *
  obtain ⟨c7, q7, i7, s7⟩ := x7
  simp only [DiagD.val] at HS1 HS2 HS3 HS4 HS5 HS6 HS7 HE1 HE2 HE3 HE4 HE5 HE6 HE7 HD7
  go_enter Tryz.func17, Tryz.ntmps17
  go_upto_region 1 with fail
  rw [← hW]
  clear hW
  have hp3 := hp W HB
  go_wp2_with fail
  refine (HE1.out _ (by first | exact HB | exact below_alloc HB _ | exact below_alloc (below_alloc HB _) _ | exact below_alloc (below_alloc (below_alloc HB _) _) _)).mono ?_
  rintro e w1 ⟨rfl, hbN⟩
  replace HB := below_step (by first | exact HB | exact below_alloc HB _ | exact below_alloc (below_alloc HB _) _ | exact below_alloc (below_alloc (below_alloc HB _) _) _) hbN
  clear hbN
  clear hp3
  obtain ⟨V, hV, hVb, hVV, hVc⟩ := box1 w1 #[.int .i64 c1, .int .i64 q1, .int .i64 i1, .int .i64 s1] 45
  have hKb : Blk V w1.heap.size 45 #[.int .i64 c1, .int .i64 q1, .int .i64 i1, .int .i64 s1] := by rw [hV]; exact Blk.new _ _ _
  have HKW := Lib.hid HB.size
  go_upto_region 2 with fail
  rw [← hV]
  replace HB := below_step HB hVb
  clear hV hVb hVV hVc
  generalize w1.heap.size = k at *
  have HK := Lib.hid hKb
  clear hKb
  have hk := blk_facts HK.out
  have hp3 := hp _ HB
  by_cases k1 : c1 = 0
  case neg =>
    have kb : (c1 == 0) = false := beq_eq_false_iff_ne.2 k1
    have HR : Hid (dgV cm = .agg #[.int .i64 c1, .int .i64 q1, .int .i64 i1, .int .i64 s1]) := Lib.hid (by rw [HC.out, HS1.out.2 k1]; rfl)
    clear k1
    go_wp2
    refine bodyPost_ret (v := .agg #[.int .i64 (c1), .int .i64 (q1), .int .i64 (i1), .int .i64 (s1)]) ?_ rfl ?_
    · exact results_cell_row (fn := Tryz.f17) (p := 2) (ty := 45) rfl _ _ (w.heap.size + 1) 45 #[.int .i64 (c1), .int .i64 (q1), .int .i64 (i1), .int .i64 (s1)] (0, 0) _ rfl (put_diag (HQ.out _ HB) _ _ _ _) Tryz.underlying45 rfl (by kernel_rfl)
    · exact ⟨by first | (rw [HR.out]; done) | (rw [HR.out]; rfl), put_below (below_step HW.out HB) (Nat.le_succ _) _ _ _ _⟩
  have e1 := HS1.out.1 k1
  subst e1 k1
  replace HC := Lib.hid (show cm = _ from HC.out)
  go_wp2_with fail
  refine (HE2.out _ HB).mono ?_
  rintro e w2 ⟨rfl, hbN⟩
  have HK2 := HK.out.below hbN HK.out.lt
  replace HB := below_step HB hbN
  clear hbN hk hp3 HK
  have hk := blk_facts HK2
  obtain ⟨V2, hV⟩ : ∃ V, V = ((((w2.setCell ⟨k, 0, none⟩ (.int .i64 c2)).setCell ⟨k, 1, none⟩ (.int .i64 q2)).setCell ⟨k, 2, none⟩ (.int .i64 i2)).setCell ⟨k, 3, none⟩ (.int .i64 s2)) := ⟨_, rfl⟩
  go_upto_region 4 with fail
  rw [← hV]
  have HK : Hid (Blk V2 k 45 #[.int .i64 c2, .int .i64 q2, .int .i64 i2, .int .i64 s2]) := Lib.hid (by rw [hV]; exact put_diag HK2 _ _ _ _)
  replace HB : Below W.heap.size W V2 := by rw [hV]; exact put_below HB HKW.out _ _ _ _
  clear hV hk HK2
  have hk := blk_facts HK.out
  have hp3 := hp _ HB
  by_cases k2 : c2 = 0
  case neg =>
    have kb : (c2 == 0) = false := beq_eq_false_iff_ne.2 k2
    have HR : Hid (dgV cm = .agg #[.int .i64 c2, .int .i64 q2, .int .i64 i2, .int .i64 s2]) := Lib.hid (by rw [HC.out, HS2.out.2 k2]; rfl)
    clear k2
    go_wp2
    refine bodyPost_ret (v := .agg #[.int .i64 (c2), .int .i64 (q2), .int .i64 (i2), .int .i64 (s2)]) ?_ rfl ?_
    · exact results_cell_row (fn := Tryz.f17) (p := 2) (ty := 45) rfl _ _ (w.heap.size + 1) 45 #[.int .i64 (c2), .int .i64 (q2), .int .i64 (i2), .int .i64 (s2)] (0, 0) _ rfl (put_diag (HQ.out _ HB) _ _ _ _) Tryz.underlying45 rfl (by kernel_rfl)
    · exact ⟨by first | (rw [HR.out]; done) | (rw [HR.out]; rfl), put_below (below_step HW.out HB) (Nat.le_succ _) _ _ _ _⟩
  have e2 := HS2.out.1 k2
  subst e2 k2
  replace HC := Lib.hid (show cm = _ from HC.out)
  go_wp2_with fail
  refine (HE3.out _ HB).mono ?_
  rintro e w2 ⟨rfl, hbN⟩
  have HK2 := HK.out.below hbN HK.out.lt
  replace HB := below_step HB hbN
  clear hbN hk hp3 HK
  have hk := blk_facts HK2
  obtain ⟨V3, hV⟩ : ∃ V, V = ((((w2.setCell ⟨k, 0, none⟩ (.int .i64 c3)).setCell ⟨k, 1, none⟩ (.int .i64 q3)).setCell ⟨k, 2, none⟩ (.int .i64 i3)).setCell ⟨k, 3, none⟩ (.int .i64 s3)) := ⟨_, rfl⟩
  go_upto_region 6 with fail
  rw [← hV]
  have HK : Hid (Blk V3 k 45 #[.int .i64 c3, .int .i64 q3, .int .i64 i3, .int .i64 s3]) := Lib.hid (by rw [hV]; exact put_diag HK2 _ _ _ _)
  replace HB : Below W.heap.size W V3 := by rw [hV]; exact put_below HB HKW.out _ _ _ _
  clear hV hk HK2
  have hk := blk_facts HK.out
  have hp3 := hp _ HB
  by_cases k3 : c3 = 0
  case neg =>
    have kb : (c3 == 0) = false := beq_eq_false_iff_ne.2 k3
    have HR : Hid (dgV cm = .agg #[.int .i64 c3, .int .i64 q3, .int .i64 i3, .int .i64 s3]) := Lib.hid (by rw [HC.out, HS3.out.2 k3]; rfl)
    clear k3
    go_wp2
    refine bodyPost_ret (v := .agg #[.int .i64 (c3), .int .i64 (q3), .int .i64 (i3), .int .i64 (s3)]) ?_ rfl ?_
    · exact results_cell_row (fn := Tryz.f17) (p := 2) (ty := 45) rfl _ _ (w.heap.size + 1) 45 #[.int .i64 (c3), .int .i64 (q3), .int .i64 (i3), .int .i64 (s3)] (0, 0) _ rfl (put_diag (HQ.out _ HB) _ _ _ _) Tryz.underlying45 rfl (by kernel_rfl)
    · exact ⟨by first | (rw [HR.out]; done) | (rw [HR.out]; rfl), put_below (below_step HW.out HB) (Nat.le_succ _) _ _ _ _⟩
  have e3 := HS3.out.1 k3
  subst e3 k3
  replace HC := Lib.hid (show cm = _ from HC.out)
  go_wp2_with fail
  refine (HE4.out _ HB).mono ?_
  rintro e w2 ⟨rfl, hbN⟩
  have HK2 := HK.out.below hbN HK.out.lt
  replace HB := below_step HB hbN
  clear hbN hk hp3 HK
  have hk := blk_facts HK2
  obtain ⟨V4, hV⟩ : ∃ V, V = ((((w2.setCell ⟨k, 0, none⟩ (.int .i64 c4)).setCell ⟨k, 1, none⟩ (.int .i64 q4)).setCell ⟨k, 2, none⟩ (.int .i64 i4)).setCell ⟨k, 3, none⟩ (.int .i64 s4)) := ⟨_, rfl⟩
  go_upto_region 8 with fail
  rw [← hV]
  have HK : Hid (Blk V4 k 45 #[.int .i64 c4, .int .i64 q4, .int .i64 i4, .int .i64 s4]) := Lib.hid (by rw [hV]; exact put_diag HK2 _ _ _ _)
  replace HB : Below W.heap.size W V4 := by rw [hV]; exact put_below HB HKW.out _ _ _ _
  clear hV hk HK2
  have hk := blk_facts HK.out
  have hp3 := hp _ HB
  by_cases k4 : c4 = 0
  case neg =>
    have kb : (c4 == 0) = false := beq_eq_false_iff_ne.2 k4
    have HR : Hid (dgV cm = .agg #[.int .i64 c4, .int .i64 q4, .int .i64 i4, .int .i64 s4]) := Lib.hid (by rw [HC.out, HS4.out.2 k4]; rfl)
    clear k4
    go_wp2
    refine bodyPost_ret (v := .agg #[.int .i64 (c4), .int .i64 (q4), .int .i64 (i4), .int .i64 (s4)]) ?_ rfl ?_
    · exact results_cell_row (fn := Tryz.f17) (p := 2) (ty := 45) rfl _ _ (w.heap.size + 1) 45 #[.int .i64 (c4), .int .i64 (q4), .int .i64 (i4), .int .i64 (s4)] (0, 0) _ rfl (put_diag (HQ.out _ HB) _ _ _ _) Tryz.underlying45 rfl (by kernel_rfl)
    · exact ⟨by first | (rw [HR.out]; done) | (rw [HR.out]; rfl), put_below (below_step HW.out HB) (Nat.le_succ _) _ _ _ _⟩
  have e4 := HS4.out.1 k4
  subst e4 k4
  replace HC := Lib.hid (show cm = _ from HC.out)
  go_wp2_with fail
  refine (HE5.out _ HB).mono ?_
  rintro e w2 ⟨rfl, hbN⟩
  have HK2 := HK.out.below hbN HK.out.lt
  replace HB := below_step HB hbN
  clear hbN hk hp3 HK
  have hk := blk_facts HK2
  obtain ⟨V5, hV⟩ : ∃ V, V = ((((w2.setCell ⟨k, 0, none⟩ (.int .i64 c5)).setCell ⟨k, 1, none⟩ (.int .i64 q5)).setCell ⟨k, 2, none⟩ (.int .i64 i5)).setCell ⟨k, 3, none⟩ (.int .i64 s5)) := ⟨_, rfl⟩
  go_upto_region 10 with fail
  rw [← hV]
  have HK : Hid (Blk V5 k 45 #[.int .i64 c5, .int .i64 q5, .int .i64 i5, .int .i64 s5]) := Lib.hid (by rw [hV]; exact put_diag HK2 _ _ _ _)
  replace HB : Below W.heap.size W V5 := by rw [hV]; exact put_below HB HKW.out _ _ _ _
  clear hV hk HK2
  have hk := blk_facts HK.out
  have hp3 := hp _ HB
  by_cases k5 : c5 = 0
  case neg =>
    have kb : (c5 == 0) = false := beq_eq_false_iff_ne.2 k5
    have HR : Hid (dgV cm = .agg #[.int .i64 c5, .int .i64 q5, .int .i64 i5, .int .i64 s5]) := Lib.hid (by rw [HC.out, HS5.out.2 k5]; rfl)
    clear k5
    go_wp2
    refine bodyPost_ret (v := .agg #[.int .i64 (c5), .int .i64 (q5), .int .i64 (i5), .int .i64 (s5)]) ?_ rfl ?_
    · exact results_cell_row (fn := Tryz.f17) (p := 2) (ty := 45) rfl _ _ (w.heap.size + 1) 45 #[.int .i64 (c5), .int .i64 (q5), .int .i64 (i5), .int .i64 (s5)] (0, 0) _ rfl (put_diag (HQ.out _ HB) _ _ _ _) Tryz.underlying45 rfl (by kernel_rfl)
    · exact ⟨by first | (rw [HR.out]; done) | (rw [HR.out]; rfl), put_below (below_step HW.out HB) (Nat.le_succ _) _ _ _ _⟩
  have e5 := HS5.out.1 k5
  subst e5 k5
  replace HC := Lib.hid (show cm = _ from HC.out)
  go_wp2_with fail
  refine (HE6.out _ HB).mono ?_
  rintro e w2 ⟨rfl, hbN⟩
  have HK2 := HK.out.below hbN HK.out.lt
  replace HB := below_step HB hbN
  clear hbN hk hp3 HK
  have hk := blk_facts HK2
  obtain ⟨V6, hV⟩ : ∃ V, V = ((((w2.setCell ⟨k, 0, none⟩ (.int .i64 c6)).setCell ⟨k, 1, none⟩ (.int .i64 q6)).setCell ⟨k, 2, none⟩ (.int .i64 i6)).setCell ⟨k, 3, none⟩ (.int .i64 s6)) := ⟨_, rfl⟩
  go_upto_region 12 with fail
  rw [← hV]
  have HK : Hid (Blk V6 k 45 #[.int .i64 c6, .int .i64 q6, .int .i64 i6, .int .i64 s6]) := Lib.hid (by rw [hV]; exact put_diag HK2 _ _ _ _)
  replace HB : Below W.heap.size W V6 := by rw [hV]; exact put_below HB HKW.out _ _ _ _
  clear hV hk HK2
  have hk := blk_facts HK.out
  have hp3 := hp _ HB
  by_cases k6 : c6 = 0
  case neg =>
    have kb : (c6 == 0) = false := beq_eq_false_iff_ne.2 k6
    have HR : Hid (dgV cm = .agg #[.int .i64 c6, .int .i64 q6, .int .i64 i6, .int .i64 s6]) := Lib.hid (by rw [HC.out, HS6.out.2 k6]; rfl)
    clear k6
    go_wp2
    refine bodyPost_ret (v := .agg #[.int .i64 (c6), .int .i64 (q6), .int .i64 (i6), .int .i64 (s6)]) ?_ rfl ?_
    · exact results_cell_row (fn := Tryz.f17) (p := 2) (ty := 45) rfl _ _ (w.heap.size + 1) 45 #[.int .i64 (c6), .int .i64 (q6), .int .i64 (i6), .int .i64 (s6)] (0, 0) _ rfl (put_diag (HQ.out _ HB) _ _ _ _) Tryz.underlying45 rfl (by kernel_rfl)
    · exact ⟨by first | (rw [HR.out]; done) | (rw [HR.out]; rfl), put_below (below_step HW.out HB) (Nat.le_succ _) _ _ _ _⟩
  have e6 := HS6.out.1 k6
  subst e6 k6
  replace HC := Lib.hid (show cm = _ from HC.out)
  go_wp2_with fail
  refine (HE7.out _ HB).mono ?_
  rintro e w2 ⟨rfl, hbN⟩
  have HK2 := HK.out.below hbN HK.out.lt
  replace HB := below_step HB hbN
  clear hbN hk hp3 HK
  have hk := blk_facts HK2
  obtain ⟨V7, hV⟩ : ∃ V, V = ((((w2.setCell ⟨k, 0, none⟩ (.int .i64 c7)).setCell ⟨k, 1, none⟩ (.int .i64 q7)).setCell ⟨k, 2, none⟩ (.int .i64 i7)).setCell ⟨k, 3, none⟩ (.int .i64 s7)) := ⟨_, rfl⟩
  go_upto_region 14 with fail
  rw [← hV]
  have HK : Hid (Blk V7 k 45 #[.int .i64 c7, .int .i64 q7, .int .i64 i7, .int .i64 s7]) := Lib.hid (by rw [hV]; exact put_diag HK2 _ _ _ _)
  replace HB : Below W.heap.size W V7 := by rw [hV]; exact put_below HB HKW.out _ _ _ _
  clear hV hk HK2
  have hk := blk_facts HK.out
  have hp3 := hp _ HB
  have HR : Hid (dgV cm = .agg #[.int .i64 c7, .int .i64 q7, .int .i64 i7, .int .i64 s7]) := Lib.hid (by rw [HC.out]; exact HD7.out)
  go_wp2
  refine bodyPost_ret (v := .agg #[.int .i64 (c7), .int .i64 (q7), .int .i64 (i7), .int .i64 (s7)]) ?_ rfl ?_
  · exact results_cell_row (fn := Tryz.f17) (p := 2) (ty := 45) rfl _ _ (w.heap.size + 1) 45 #[.int .i64 (c7), .int .i64 (q7), .int .i64 (i7), .int .i64 (s7)] (0, 0) _ rfl (put_diag (HQ.out _ HB) _ _ _ _) Tryz.underlying45 rfl (by kernel_rfl)
  · exact ⟨by first | (rw [HR.out]; done) | (rw [HR.out]; rfl), put_below (below_step HW.out HB) (Nat.le_succ _) _ _ _ _⟩
end Go.Proofs.YtgfbikknkcaneaaGreat
namespace Go.Proofs.YtgfbikknkcaneaaGreat
open Go.RowKit

set_option maxRecDepth 100000 in
set_option maxHeartbeats 16000000 in
theorem law_checks (p : ProgD) (w : World) (hp0 : ProgGood w p) :
    Calls Tryz.prog 5 #[.agg (progCells p)] w fun e w' => e = .returned (.bool true) ∧ Below w.heap.size w w' := by
  obtain ⟨W, hW, hw, HB, hp⟩ := box1 w (progCells p) 31
  have HW := Lib.hid hw
  have HP := Lib.hid (hp0.ok.below hw)
  have HLp := Lib.hid (fun u (hb : Below W.heap.size W u) => tooLarge_any p u (HP.out.below hb) (len_cap hp0.control (by decide)) hp0.caps)
  have HCap := Lib.hid hp0.cap
  clear hp0 hw
  go_enter Tryz.func5, Tryz.ntmps5
  go_upto_region 1 with fail
  rw [← hW]
  clear hW
  go_wp2_with fail
  refine (HLp.out _ HB).mono ?_
  rintro e w1 ⟨⟨b, rfl, hb⟩, hbN⟩
  replace HB := below_step HB hbN
  have HS := Lib.hid hb
  clear hbN hb
  cases b with
  | true =>
    go_wp2_with fail
    refine (works_any _).mono ?_
    rintro e w2 ⟨rfl, hbN⟩
    replace HB := below_step HB hbN
    clear hbN
    go_wp2
    go_ret
    exact ⟨rfl, below_step HW.out HB⟩
  | false =>
  have HSm := Lib.hid (HS.out rfl)
  clear HS HLp
  obtain ⟨d, hd⟩ : ∃ d, d = diagM p := ⟨_, rfl⟩
  obtain ⟨d0, d1, d2, d3⟩ := d
  have E7 : Hid (∀ u, Below w1.heap.size w1 u → Calls Tryz.prog 19 #[.agg (progCells p)] u fun e w2 => e = .returned (.agg #[.int .i64 d0, .int .i64 d1, .int .i64 d2, .int .i64 d3]) ∧ Below u.heap.size u w2) := Lib.hid (fun u hb => by
    have h := check_any p u (HP.out.below (below_step HB hb)) HCap.out (Nat.le_trans HSm.out.nodes (by decide))
    rw [← hd] at h
    exact h)
  have E8 : Hid (∀ u, Below w1.heap.size w1 u → Calls Tryz.prog 17 #[.agg (progCells p)] u fun e w2 => e = .returned (.agg #[.int .i64 d0, .int .i64 d1, .int .i64 d2, .int .i64 d3]) ∧ Below u.heap.size u w2) := Lib.hid (fun u hb => by
    have h := rcheck_any p u (HP.out.below (below_step HB hb)) HCap.out (Nat.le_trans HSm.out.nodes (by decide))
    rw [show dgV (checkM p) = (diagM p).val from rfl, ← hd] at h
    exact h)
  have hdd := eql_diag d0 d1 d2 d3
  have hq := fun u (hb : Below w1.heap.size w1 u) => hp u (below_step HB hb)
  have H0 := Lib.hid (Below.refl w1.heap.size w1)
  have HBV := Lib.hid HB
  have hB0 : Below w1.heap.size w1 w1 := Below.refl _ _
  clear hd HB hp
  go_upto_region 3 with fail
  go_region_held3 (fun w' => Below w1.heap.size w1 w') (first | exact H0.out | exact below_drew H0.out | (exact below_step (by assumption) (by assumption)) | assumption)
    (first
    | (go_at_call 19; with_reducible (refine (E7.out _ (by assumption)).mono ?_); rintro e w5 ⟨rfl, hb1⟩)
    | (go_at_call 17; with_reducible (refine (E8.out _ (by assumption)).mono ?_); rintro e w5 ⟨rfl, hb1⟩)
    | (go_at_call 18; refine (works_any _).mono ?_; rintro e w5 ⟨rfl, hb1⟩))
  have HB5 : Hid (Below w1.heap.size w1 _) := Lib.hid (by assumption)
  go_wp2
  go_ret
  exact ⟨rfl, below_step HW.out (below_step HBV.out HB5.out)⟩
end Go.Proofs.YtgfbikknkcaneaaGreat
