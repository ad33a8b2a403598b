/- Walks of exprtext's reference: readExpr, the rest. No condition but that program and tokens lie in memory. Walks of the reference's numbers: widths, powers, masks, fits. No condition. Walks of the reference on fields and operators: Arity, wide, Declared, Width. No condition but that the program lies in memory. The walk of the reference's leaf. No condition but that the program lies in memory. The walk of the reference's operator. No condition but the bounds of the widths. The walk of the reference's check of a subexpression, and of Check. No condition but that program and nodes lie in memory. The walks of exprtext's reference: readExpr and readOperand, put together; ParseTokens. No condition but that program and tokens lie in memory. Walks of exprtext's reference: the end of a subexpression, primary, rightHeader. No condition but that program and nodes lie in memory, the names short. Walks of exprtext's reference: primary, rightHeader. No condition but that the program lies in memory, the names short. Walks of exprtext's reference: operand and text, by induction on the text of a checked expression. No condition but that program and texts lie in memory, the names short. Walks of exprtext's reference: text of the nodes with parts. No condition but that program and texts lie in memory, the names short. -/
import Derived.BigQuiet
import Derived.Deep.RegionHeld3
import Derived.Test.YtpomjcndeanjgaaGreatDoorHPd
namespace Go.Proofs.YtpomjcndeanjgaaGreatDoor
open Go.RowKit
set_option maxRecDepth 100000 in
set_option maxHeartbeats 8000000 in
theorem rexTilde {x : L Tk} {p : ProgD} {ps : L FieldD} {i : Nat} {w : World} {opd : Nat → Pd} {R : Pd} (E : REnv w x p ps) (hO : ROpdOk x p ps opd i) (hB : ∀ j, j ≤ x.l.length → RBd x.l j (opd j)) (_hi : i ≤ x.l.length) (h126 : isSym x.l [126] i = true) (hR : R = rPre ⟨5, 0, 0⟩ ⟨[], 0, 0⟩ (opd (i + 1))) :
    Calls Tryz.prog 30 #[.slice x.A x.l.length x.c, .int .i64 i, .agg (scopeCells p ps)] w (RG w R) := by
  have hil : i < x.l.length := sym_lt h126
  obtain ⟨W, hW, hw, hsz, hb1, hb2⟩ := boxR w (scopeCells p ps) 44 #[.slice none 0 0, .int .i64 0, .int .i64 0] 88
  have HW := Lib.hid hw
  have HE := Lib.hid (E.below hw)
  have HRB := Lib.hid (fun u (h : Below W.heap.size W u) => hb2.below h hb2.lt)
  have hps := fun u (h : Below W.heap.size W u) => (show ∀ i, i < (scopeCells p ps).size → u.cell? ⟨w.heap.size, i, none⟩ = (scopeCells p ps)[i]? from fun i _ => (hb1.below h hb1.lt).cell i)
  have HSZ : Hid (W.heap.size = w.heap.size + 2) := Lib.hid hsz
  have HB := Below.refl W.heap.size W
  have hm := E.few
  clear hw hsz hb1 hb2
  have H126 := Lib.hid (fun u (h : Below W.heap.size W u) => show Calls Tryz.prog 65 #[.slice x.A x.l.length x.c, .int .i64 i, .string ⟨#[126]⟩] u fun e w' => e = .returned (.bool true) ∧ u = w' from by
    have := rsym_any x (i) ⟨#[126]⟩ u (HE.out.toks.below h (Nat.le_refl _))
    rw [show isSym x.l (⟨#[126]⟩ : ByteArray).data.toList (i) = true by assumption] at this
    exact this)
  have HA := Lib.hid (fun u (h : Below W.heap.size W u) => show Calls Tryz.prog 66 #[.slice x.A x.l.length x.c, .int .i64 ((i : Int) + 1), .agg (scopeCells p ps)] u (RG u (opd (i + 1))) from hO u (i + 1) (by omega) (by omega) (HE.out.below h))
  have hba := hB (i + 1) (by omega)
  have ha1 := hba.n
  clear hba
  generalize opd (i + 1) = a at *
  obtain ⟨an, aj, ae⟩ := a
  obtain ⟨rn, rj, re⟩ := R
  simp only at ha1 ⊢
  have hp1 := hps W HB
  clear E hO hB hps
  go_enter Tryz.func30, Tryz.ntmps30
  go_upto_region 1 with fail
  rw [← hW]
  clear hW
  go_wp2_with fail
  refine (H126.out W HB).mono ?_
  rintro r w' ⟨rfl, rfl⟩
  go_wp2_with fail
  refine (HA.out W HB).mono ?_
  rintro r w1 ⟨⟨A, c, rfl, hl, hn, hf⟩, hb1⟩
  have HB1 := Lib.hid hb1
  have HL1 := Lib.hid hl
  have HN := Lib.hid hn
  clear hb1 hl hn hf HA hp1
  go_upto_region 3 with fail
  obtain ⟨V, hV⟩ : ∃ V, V = w1.alloc (.cells #[.slice A an.length c, .int .i64 aj, .int .i64 ae] 88) := ⟨_, rfl⟩
  have HVB : Hid (Blk V w1.heap.size 88 #[.slice A an.length c, .int .i64 aj, .int .i64 ae]) := Lib.hid (by rw [hV]; exact Blk.new _ _ _)
  have HBV : Hid (Below W.heap.size W V) := Lib.hid (by rw [hV]; exact below_alloc HB1.out _)
  have HLV : Hid (LOk V 3 NodeD.cells ⟨an, A, c⟩) := Lib.hid (by rw [hV]; exact HL1.out.below (below1 _ _) (Nat.le_refl _))
  rw [← hV]
  clear hV
  have v0 : V.cell? ⟨w1.heap.size, 0, none⟩ = some (.slice A an.length c) := HVB.out.cell 0
  have v1 : V.cell? ⟨w1.heap.size, 1, none⟩ = some (.int .i64 aj) := HVB.out.cell 1
  have v2 : V.cell? ⟨w1.heap.size, 2, none⟩ = some (.int .i64 ae) := HVB.out.cell 2
  have HPX := Lib.hid (show Calls Tryz.prog 67 #[.agg #[.int .i64 5, .int .i64 0, .int .i64 0], .agg #[.slice none 0 0, .int .i64 0, .int .i64 0], .agg #[.slice A an.length c, .int .i64 aj, .int .i64 ae]] V (RG V ⟨rn, rj, re⟩) from by
    rw [hR]; exact rprefix_any ⟨5, 0, 0⟩ ⟨[], 0, 0⟩ ⟨an, aj, ae⟩ none A 0 c V ⟨Nat.zero_le _, .inl rfl⟩ (fun _ => rfl) HLV.out HN.out (by simp only [List.length_nil]; omega))
  clear hR
  go_wp2_with fail
  refine HPX.out.mono ?_
  rintro r w5 ⟨⟨A5, c5, rfl, hl5, hn5, hf5⟩, hb5⟩
  have HB5 := Lib.hid hb5
  have HL5 := Lib.hid hl5
  have HN5 := Lib.hid hn5
  have HF5 := Lib.hid hf5
  have HLE : Hid (V.heap.size ≤ V.heap.size) := Lib.hid (Nat.le_refl _)
  clear hb5 hl5 hn5 hf5 v0 v1 v2
  have HRU := Lib.hid (HRB.out w5 (below_step HBV.out HB5.out))
  have r0 : w5.cell? ⟨w.heap.size + 1, 0, none⟩ = some (.slice none 0 0) := HRU.out.cell 0
  have r1 : w5.cell? ⟨w.heap.size + 1, 1, none⟩ = some (.int .i64 0) := HRU.out.cell 1
  have r2 : w5.cell? ⟨w.heap.size + 1, 2, none⟩ = some (.int .i64 0) := HRU.out.cell 2
  have g0 : w5.frozen? ⟨w.heap.size + 1, 0, none⟩ = false := HRU.out.frozen 0
  have g1 : w5.frozen? ⟨w.heap.size + 1, 1, none⟩ = false := HRU.out.frozen 1
  have g2 : w5.frozen? ⟨w.heap.size + 1, 2, none⟩ = false := HRU.out.frozen 2
  have HFAR : Hid (w.heap.size ≤ V.heap.size ∧ w.heap.size + 1 < V.heap.size) := Lib.hid (by have := HBV.out.size; have := HSZ.out; omega)
  go_wp2
  refine bodyPost_ret (v := .agg #[.slice A5 rn.length c5, .int .i64 rj, .int .i64 re]) ?_ rfl ?_
  · exact results_cell_row (fn := Tryz.f30) (p := 6) (ty := 88) rfl _ _ (w.heap.size + 1) 88 #[.slice A5 rn.length c5, .int .i64 rj, .int .i64 re] (0, 0) _ rfl (rput3 HRU.out _ _ _) Tryz.underlying88 rfl (by kernel_rfl)
  · exact RG.put (R := ⟨rn, rj, re⟩) (A := A5) (c := c5) (W := V) (Nat.le_succ _) (below_step HW.out (below_step HBV.out HB5.out)) HL5.out HN5.out (fun a h => Nat.le_trans HLE.out (HF5.out a h)) HFAR.out _ _ _ rfl
set_option maxRecDepth 100000 in
set_option maxHeartbeats 8000000 in
theorem rexSliceBad {x : L Tk} {p : ProgD} {ps : L FieldD} {i : Nat} {w : World} {opd : Nat → Pd} {R : Pd} (E : REnv w x p ps) (hO : ROpdOk x p ps opd i) (hB : ∀ j, j ≤ x.l.length → RBd x.l j (opd j)) (hi : i ≤ x.l.length) (h126 : isSym x.l [126] i = false) (hz : (opd i).e = 0) (hlt : isSym x.l [60, 60] (opd i).at_ = false) (hgg : isSym x.l [62, 62] (opd i).at_ = false) (h91 : isSym x.l [91] (opd i).at_ = true) (hx : expAll x.l ((opd i).at_ + 1) [(2, []), (3, [43]), (2, []), (3, [93])] ≠ 0) (hR : R = ⟨[], 0, expAll x.l ((opd i).at_ + 1) [(2, []), (3, [43]), (2, []), (3, [93])]⟩) :
    Calls Tryz.prog 30 #[.slice x.A x.l.length x.c, .int .i64 i, .agg (scopeCells p ps)] w (RG w R) := by
  subst hR
  obtain ⟨W, hW, hw, hsz, hb1, hb2⟩ := boxR w (scopeCells p ps) 44 #[.slice none 0 0, .int .i64 0, .int .i64 0] 88
  have HW := Lib.hid hw
  have HE := Lib.hid (E.below hw)
  have HRB := Lib.hid (fun u (h : Below W.heap.size W u) => hb2.below h hb2.lt)
  have hps := fun u (h : Below W.heap.size W u) => (show ∀ i, i < (scopeCells p ps).size → u.cell? ⟨w.heap.size, i, none⟩ = (scopeCells p ps)[i]? from fun i _ => (hb1.below h hb1.lt).cell i)
  have HSZ : Hid (W.heap.size = w.heap.size + 2) := Lib.hid hsz
  have HB := Below.refl W.heap.size W
  have hm := E.few
  clear hw hsz hb1 hb2
  have H126 := Lib.hid (fun u (h : Below W.heap.size W u) => show Calls Tryz.prog 65 #[.slice x.A x.l.length x.c, .int .i64 i, .string ⟨#[126]⟩] u fun e w' => e = .returned (.bool false) ∧ u = w' from by
    have := rsym_any x (i) ⟨#[126]⟩ u (HE.out.toks.below h (Nat.le_refl _))
    rw [show isSym x.l (⟨#[126]⟩ : ByteArray).data.toList (i) = false by assumption] at this
    exact this)
  have HA := Lib.hid (fun u (h : Below W.heap.size W u) => show Calls Tryz.prog 66 #[.slice x.A x.l.length x.c, .int .i64 i, .agg (scopeCells p ps)] u (RG u (opd i)) from hO u (i) (by omega) (by omega) (HE.out.below h))
  have hba := hB i hi
  have ha1 := hba.n
  have ha2 := hba.ok
  have ha3 := hba.top
  clear hba
  generalize opd i = a at *
  obtain ⟨an, aj, ae⟩ := a
  simp only at hz hlt hgg h91 hx ⊢
  subst hz
  obtain ⟨ha4, ha5⟩ := ha2 rfl
  clear ha2
  simp only at ha4 ha5
  have HLT := Lib.hid (fun u (h : Below W.heap.size W u) => show Calls Tryz.prog 65 #[.slice x.A x.l.length x.c, .int .i64 aj, .string ⟨#[60, 60]⟩] u fun e w' => e = .returned (.bool false) ∧ u = w' from by
    have := rsym_any x (aj) ⟨#[60, 60]⟩ u (HE.out.toks.below h (Nat.le_refl _))
    rw [show isSym x.l (⟨#[60, 60]⟩ : ByteArray).data.toList (aj) = false by assumption] at this
    exact this)
  have HGG := Lib.hid (fun u (h : Below W.heap.size W u) => show Calls Tryz.prog 65 #[.slice x.A x.l.length x.c, .int .i64 aj, .string ⟨#[62, 62]⟩] u fun e w' => e = .returned (.bool false) ∧ u = w' from by
    have := rsym_any x (aj) ⟨#[62, 62]⟩ u (HE.out.toks.below h (Nat.le_refl _))
    rw [show isSym x.l (⟨#[62, 62]⟩ : ByteArray).data.toList (aj) = false by assumption] at this
    exact this)
  have H91 := Lib.hid (fun u (h : Below W.heap.size W u) => show Calls Tryz.prog 65 #[.slice x.A x.l.length x.c, .int .i64 aj, .string ⟨#[91]⟩] u fun e w' => e = .returned (.bool true) ∧ u = w' from by
    have := rsym_any x (aj) ⟨#[91]⟩ u (HE.out.toks.below h (Nat.le_refl _))
    rw [show isSym x.l (⟨#[91]⟩ : ByteArray).data.toList (aj) = true by assumption] at this
    exact this)
  have HXA := Lib.hid (fun u (h : LOk u 4 tkL x) => show Calls Tryz.prog 69 #[.slice x.A x.l.length x.c, .int .i64 ((aj : Int) + 1), .slice (some ⟨u.heap.size, 0, none⟩) 4 4, .slice (some ⟨u.heap.size + 1, 0, none⟩) 4 4] ((u.alloc (.cells #[.int .i64 2, .int .i64 3, .int .i64 2, .int .i64 3] 3)).alloc (.cells #[.string ⟨#[]⟩, .string ⟨#[43]⟩, .string ⟨#[]⟩, .string ⟨#[93]⟩] 9)) fun e w' => e = .returned (.int .i64 (expAll x.l (aj + 1) [(2, []), (3, [43]), (2, []), (3, [93])])) ∧ Below u.heap.size u w' from expAll_lit (i := aj + 1) [(2, []), (3, [43]), (2, []), (3, [93])] h (by omega) (by decide))
  generalize expAll x.l (aj + 1) [(2, []), (3, [43]), (2, []), (3, [93])] = al at *
  have hx' : (al != 0) = true := bne_iff_ne.2 hx
  have hp1 := hps W HB
  clear E hO hB
  go_enter Tryz.func30, Tryz.ntmps30
  go_upto_region 1 with fail
  rw [← hW]
  clear hW
  go_wp2_with fail
  refine (H126.out W HB).mono ?_
  rintro r w' ⟨rfl, rfl⟩
  go_wp2_with fail
  refine (HA.out W HB).mono ?_
  rintro r w1 ⟨⟨A, c, rfl, hl, hn, hf⟩, hb1⟩
  have HB1 := Lib.hid hb1
  have HL1 := Lib.hid hl
  have HN := Lib.hid hn
  have HF := Lib.hid hf
  clear hb1 hl hn hf HA hp1
  go_upto_region 5 with fail
  obtain ⟨V, hV⟩ : ∃ V, V = w1.alloc (.cells #[.slice A an.length c, .int .i64 aj, .int .i64 0] 88) := ⟨_, rfl⟩
  have HVB : Hid (Blk V w1.heap.size 88 #[.slice A an.length c, .int .i64 aj, .int .i64 0]) := Lib.hid (by rw [hV]; exact Blk.new _ _ _)
  have HBV : Hid (Below W.heap.size W V) := Lib.hid (by rw [hV]; exact below_alloc HB1.out _)
  have HLV : Hid (LOk V 3 NodeD.cells ⟨an, A, c⟩) := Lib.hid (by rw [hV]; exact HL1.out.below (below1 _ _) (Nat.le_refl _))
  have HFW : Hid (∀ a, A = some a → w.heap.size ≤ a.block ∧ a.block ≠ w.heap.size + 1) := Lib.hid (fun a h => by have := HF.out a h; have := HSZ.out; omega)
  have hne : w.heap.size + 2 ≤ w1.heap.size := by have := HB1.out.size; have := HSZ.out; omega
  rw [← hV]
  clear hV
  have v0 : V.cell? ⟨w1.heap.size, 0, none⟩ = some (.slice A an.length c) := HVB.out.cell 0
  have v1 : V.cell? ⟨w1.heap.size, 1, none⟩ = some (.int .i64 aj) := HVB.out.cell 1
  have v2 : V.cell? ⟨w1.heap.size, 2, none⟩ = some (.int .i64 0) := HVB.out.cell 2
  go_wp2_with fail
  refine (HGG.out V HBV.out).mono ?_
  rintro r w' ⟨rfl, rfl⟩
  go_wp2_with fail
  refine (HLT.out V HBV.out).mono ?_
  rintro r w' ⟨rfl, rfl⟩
  go_wp2_with fail
  refine (HGG.out V HBV.out).mono ?_
  rintro r w' ⟨rfl, rfl⟩
  go_wp2_with fail
  refine (H91.out V HBV.out).mono ?_
  rintro r w' ⟨rfl, rfl⟩
  go_wp2_with fail
  refine (HXA.out V (HE.out.toks.below HBV.out (Nat.le_refl _))).mono ?_
  rintro r w2 ⟨rfl, hN⟩
  have HB2 := Lib.hid hN
  clear hN HXA
  have HRU := Lib.hid (HRB.out w2 (below_step HBV.out HB2.out))
  have r0 : w2.cell? ⟨w.heap.size + 1, 0, none⟩ = some (.slice none 0 0) := HRU.out.cell 0
  have r1 : w2.cell? ⟨w.heap.size + 1, 1, none⟩ = some (.int .i64 0) := HRU.out.cell 1
  have r2 : w2.cell? ⟨w.heap.size + 1, 2, none⟩ = some (.int .i64 0) := HRU.out.cell 2
  have g0 : w2.frozen? ⟨w.heap.size + 1, 0, none⟩ = false := HRU.out.frozen 0
  have g1 : w2.frozen? ⟨w.heap.size + 1, 1, none⟩ = false := HRU.out.frozen 1
  have g2 : w2.frozen? ⟨w.heap.size + 1, 2, none⟩ = false := HRU.out.frozen 2
  go_wp2
  refine bodyPost_ret (v := .agg #[.slice none 0 0, .int .i64 0, .int .i64 al]) ?_ rfl ?_
  · exact results_cell_row (fn := Tryz.f30) (p := 6) (ty := 88) rfl _ _ (w.heap.size + 1) 88 #[.slice none 0 0, .int .i64 0, .int .i64 al] (0, 0) _ rfl (rput3 HRU.out _ _ _) Tryz.underlying88 rfl (by kernel_rfl)
  · exact (RG.fin (R := ⟨[], 0, al⟩) (A := none) (c := 0) (Nat.le_succ _) (below_step HW.out (below_step HBV.out HB2.out)) ⟨Nat.zero_le _, .inl rfl⟩ (fun _ => rfl) (fun a h => by cases h) _ _ _ rfl)
set_option maxRecDepth 100000 in
set_option maxHeartbeats 8000000 in
theorem rexSliceOk {x : L Tk} {p : ProgD} {ps : L FieldD} {i : Nat} {w : World} {opd : Nat → Pd} {R : Pd} (E : REnv w x p ps) (hO : ROpdOk x p ps opd i) (hB : ∀ j, j ≤ x.l.length → RBd x.l j (opd j)) (hi : i ≤ x.l.length) (h126 : isSym x.l [126] i = false) (hz : (opd i).e = 0) (hlt : isSym x.l [60, 60] (opd i).at_ = false) (hgg : isSym x.l [62, 62] (opd i).at_ = false) (h91 : isSym x.l [91] (opd i).at_ = true) (hx : expAll x.l ((opd i).at_ + 1) [(2, []), (3, [43]), (2, []), (3, [93])] = 0) (hR : R = rPre ⟨8, (tkAt x.l ((opd i).at_ + 1)).value, (tkAt x.l ((opd i).at_ + 3)).value⟩ (opd i) ⟨[], (opd i).at_ + 5, 0⟩) :
    Calls Tryz.prog 30 #[.slice x.A x.l.length x.c, .int .i64 i, .agg (scopeCells p ps)] w (RG w R) := by
  obtain ⟨W, hW, hw, hsz, hb1, hb2⟩ := boxR w (scopeCells p ps) 44 #[.slice none 0 0, .int .i64 0, .int .i64 0] 88
  have HW := Lib.hid hw
  have HE := Lib.hid (E.below hw)
  have HRB := Lib.hid (fun u (h : Below W.heap.size W u) => hb2.below h hb2.lt)
  have hps := fun u (h : Below W.heap.size W u) => (show ∀ i, i < (scopeCells p ps).size → u.cell? ⟨w.heap.size, i, none⟩ = (scopeCells p ps)[i]? from fun i _ => (hb1.below h hb1.lt).cell i)
  have HSZ : Hid (W.heap.size = w.heap.size + 2) := Lib.hid hsz
  have HB := Below.refl W.heap.size W
  have hm := E.few
  clear hw hsz hb1 hb2
  have H126 := Lib.hid (fun u (h : Below W.heap.size W u) => show Calls Tryz.prog 65 #[.slice x.A x.l.length x.c, .int .i64 i, .string ⟨#[126]⟩] u fun e w' => e = .returned (.bool false) ∧ u = w' from by
    have := rsym_any x (i) ⟨#[126]⟩ u (HE.out.toks.below h (Nat.le_refl _))
    rw [show isSym x.l (⟨#[126]⟩ : ByteArray).data.toList (i) = false by assumption] at this
    exact this)
  have HA := Lib.hid (fun u (h : Below W.heap.size W u) => show Calls Tryz.prog 66 #[.slice x.A x.l.length x.c, .int .i64 i, .agg (scopeCells p ps)] u (RG u (opd i)) from hO u (i) (by omega) (by omega) (HE.out.below h))
  have hba := hB i hi
  have ha1 := hba.n
  have ha2 := hba.ok
  have ha3 := hba.top
  clear hba
  generalize opd i = a at *
  obtain ⟨an, aj, ae⟩ := a
  simp only at hz hlt hgg h91 hx hR ⊢
  subst hz
  obtain ⟨ha4, ha5⟩ := ha2 rfl
  clear ha2
  simp only at ha4 ha5
  have HLT := Lib.hid (fun u (h : Below W.heap.size W u) => show Calls Tryz.prog 65 #[.slice x.A x.l.length x.c, .int .i64 aj, .string ⟨#[60, 60]⟩] u fun e w' => e = .returned (.bool false) ∧ u = w' from by
    have := rsym_any x (aj) ⟨#[60, 60]⟩ u (HE.out.toks.below h (Nat.le_refl _))
    rw [show isSym x.l (⟨#[60, 60]⟩ : ByteArray).data.toList (aj) = false by assumption] at this
    exact this)
  have HGG := Lib.hid (fun u (h : Below W.heap.size W u) => show Calls Tryz.prog 65 #[.slice x.A x.l.length x.c, .int .i64 aj, .string ⟨#[62, 62]⟩] u fun e w' => e = .returned (.bool false) ∧ u = w' from by
    have := rsym_any x (aj) ⟨#[62, 62]⟩ u (HE.out.toks.below h (Nat.le_refl _))
    rw [show isSym x.l (⟨#[62, 62]⟩ : ByteArray).data.toList (aj) = false by assumption] at this
    exact this)
  have H91 := Lib.hid (fun u (h : Below W.heap.size W u) => show Calls Tryz.prog 65 #[.slice x.A x.l.length x.c, .int .i64 aj, .string ⟨#[91]⟩] u fun e w' => e = .returned (.bool true) ∧ u = w' from by
    have := rsym_any x (aj) ⟨#[91]⟩ u (HE.out.toks.below h (Nat.le_refl _))
    rw [show isSym x.l (⟨#[91]⟩ : ByteArray).data.toList (aj) = true by assumption] at this
    exact this)
  have HXA := Lib.hid (fun u (h : LOk u 4 tkL x) => show Calls Tryz.prog 69 #[.slice x.A x.l.length x.c, .int .i64 ((aj : Int) + 1), .slice (some ⟨u.heap.size, 0, none⟩) 4 4, .slice (some ⟨u.heap.size + 1, 0, none⟩) 4 4] ((u.alloc (.cells #[.int .i64 2, .int .i64 3, .int .i64 2, .int .i64 3] 3)).alloc (.cells #[.string ⟨#[]⟩, .string ⟨#[43]⟩, .string ⟨#[]⟩, .string ⟨#[93]⟩] 9)) fun e w' => e = .returned (.int .i64 (expAll x.l (aj + 1) [(2, []), (3, [43]), (2, []), (3, [93])])) ∧ Below u.heap.size u w' from expAll_lit (i := aj + 1) [(2, []), (3, [43]), (2, []), (3, [93])] h (by omega) (by decide))
  rw [hx] at HXA
  have hj3 : aj + 3 < x.l.length := by have := all4_lt hx; omega
  have hj1 : aj + 1 < x.l.length := by omega
  rw [tk_of hj1, tk_of hj3] at hR
  obtain ⟨g, of, hA, hq⟩ := TkD.atA HE.out.toks hj1
  obtain ⟨g2, of2, hA2, hq2⟩ := TkD.atA HE.out.toks hj3
  obtain ⟨rfl, rfl⟩ : g = g2 ∧ of = of2 := by
    rw [hA] at hA2; injection hA2 with hA2; injection hA2 with a b; exact ⟨a, b⟩
  have hgl := TkD.blk E.toks hj1 hA
  have hv1 := (E.ok _ (List.getElem_mem hj1)).value
  have hv3 := (E.ok _ (List.getElem_mem hj3)).value
  have HQ := Lib.hid hq
  have HQ2 := Lib.hid hq2
  have HAA := Lib.hid hA
  generalize x.l[aj + 1].value = v at *
  generalize x.l[aj + 3].value = v3 at *
  have hw1 : IntKind.i64.wrap (v : Int) = (v : Int) := IntWalk.i64_in _ (by omega)
  have hw3 : IntKind.i64.wrap (v3 : Int) = (v3 : Int) := IntWalk.i64_in _ (by omega)
  have hii : (aj : Int) + 1 < (x.l.length : Int) := by omega
  have hii0 : 0 ≤ (aj : Int) + 1 := by omega
  have htn : ((aj : Int) + 1).toNat = aj + 1 := by omega
  have hjj : (aj : Int) + 3 < (x.l.length : Int) := by omega
  have hjj0 : 0 ≤ (aj : Int) + 3 := by omega
  have htn3 : ((aj : Int) + 3).toNat = aj + 3 := by omega
  have hwr : IntKind.i64.wrap ((aj : Int) + 1) = (aj : Int) + 1 := IntWalk.i64_in _ (by omega)
  have hwr3 : IntKind.i64.wrap ((aj : Int) + 3) = (aj : Int) + 3 := IntWalk.i64_in _ (by omega)
  have hwr5 : IntKind.i64.wrap ((aj : Int) + 5) = (aj : Int) + 5 := IntWalk.i64_in _ (by omega)
  obtain ⟨rn, rj, re⟩ := R
  clear hq hA hq2 hA2
  have hp1 := hps W HB
  clear E hO hB
  go_enter Tryz.func30, Tryz.ntmps30
  go_upto_region 1 with fail
  rw [← hW]
  clear hW
  go_wp2_with fail
  refine (H126.out W HB).mono ?_
  rintro r w' ⟨rfl, rfl⟩
  go_wp2_with fail
  refine (HA.out W HB).mono ?_
  rintro r w1 ⟨⟨A, c, rfl, hl, hn, hf⟩, hb1⟩
  have HB1 := Lib.hid hb1
  have HL1 := Lib.hid hl
  have HN := Lib.hid hn
  have HF := Lib.hid hf
  clear hb1 hl hn hf HA hp1
  go_upto_region 5 with fail
  obtain ⟨V, hV⟩ : ∃ V, V = w1.alloc (.cells #[.slice A an.length c, .int .i64 aj, .int .i64 0] 88) := ⟨_, rfl⟩
  have HVB : Hid (Blk V w1.heap.size 88 #[.slice A an.length c, .int .i64 aj, .int .i64 0]) := Lib.hid (by rw [hV]; exact Blk.new _ _ _)
  have HBV : Hid (Below W.heap.size W V) := Lib.hid (by rw [hV]; exact below_alloc HB1.out _)
  have HLV : Hid (LOk V 3 NodeD.cells ⟨an, A, c⟩) := Lib.hid (by rw [hV]; exact HL1.out.below (below1 _ _) (Nat.le_refl _))
  have HFW : Hid (∀ a, A = some a → w.heap.size ≤ a.block ∧ a.block ≠ w.heap.size + 1) := Lib.hid (fun a h => by have := HF.out a h; have := HSZ.out; omega)
  have hne : w.heap.size + 2 ≤ w1.heap.size := by have := HB1.out.size; have := HSZ.out; omega
  rw [← hV]
  clear hV
  have v0 : V.cell? ⟨w1.heap.size, 0, none⟩ = some (.slice A an.length c) := HVB.out.cell 0
  have v1 : V.cell? ⟨w1.heap.size, 1, none⟩ = some (.int .i64 aj) := HVB.out.cell 1
  have v2 : V.cell? ⟨w1.heap.size, 2, none⟩ = some (.int .i64 0) := HVB.out.cell 2
  go_wp2_with fail
  refine (HGG.out V HBV.out).mono ?_
  rintro r w' ⟨rfl, rfl⟩
  go_wp2_with fail
  refine (HLT.out V HBV.out).mono ?_
  rintro r w' ⟨rfl, rfl⟩
  go_wp2_with fail
  refine (HGG.out V HBV.out).mono ?_
  rintro r w' ⟨rfl, rfl⟩
  go_wp2_with fail
  refine (H91.out V HBV.out).mono ?_
  rintro r w' ⟨rfl, rfl⟩
  go_wp2_with fail
  refine (HXA.out V (HE.out.toks.below HBV.out (Nat.le_refl _))).mono ?_
  rintro r w2 ⟨rfl, hN⟩
  have HB2 := Lib.hid hN
  clear hN HXA
  have HPX := Lib.hid (fun u (h : Below V.heap.size V u) => show Calls Tryz.prog 67 #[.agg #[.int .i64 8, .int .i64 v, .int .i64 v3], .agg #[.slice A an.length c, .int .i64 aj, .int .i64 0], .agg #[.slice none 0 0, .int .i64 ((aj : Int) + 5), .int .i64 0]] u (RG u ⟨rn, rj, re⟩) from by
    rw [hR]; exact rprefix_any ⟨8, v, v3⟩ ⟨an, aj, 0⟩ ⟨[], aj + 5, 0⟩ A none c 0 u (HLV.out.below h (Nat.le_refl _)) HN.out ⟨Nat.zero_le _, .inl rfl⟩ (fun _ => rfl) (by simp only [List.length_nil]; omega))
  clear hR
  have HS := Lib.hid (fun u (h : Below V.heap.size V u) => show (fun w' => w'.cell? ⟨w1.heap.size, 0, none⟩ = some (.slice A an.length c) ∧ w'.cell? ⟨w1.heap.size, 1, none⟩ = some (.int .i64 aj) ∧ w'.cell? ⟨w1.heap.size, 2, none⟩ = some (.int .i64 0) ∧ w'.cell? ⟨g, of + (aj + 1) * 4 + 2, none⟩ = some (.int .u32 v) ∧ w'.cell? ⟨g, of + (aj + 3) * 4 + 2, none⟩ = some (.int .u32 v3)) u from ⟨(HVB.out.below h HVB.out.lt).cell 0, (HVB.out.below h HVB.out.lt).cell 1, (HVB.out.below h HVB.out.lt).cell 2, (HQ.out u (below_step HBV.out h)).2.2.1, (HQ2.out u (below_step HBV.out h)).2.2.1⟩)
  have HS2 := Lib.hid (fun u (h : Below V.heap.size V u) (x y z : Value) => show (fun w' => w'.cell? ⟨w1.heap.size, 0, none⟩ = some (.slice A an.length c) ∧ w'.cell? ⟨w1.heap.size, 1, none⟩ = some (.int .i64 aj) ∧ w'.cell? ⟨w1.heap.size, 2, none⟩ = some (.int .i64 0) ∧ w'.cell? ⟨g, of + (aj + 1) * 4 + 2, none⟩ = some (.int .u32 v) ∧ w'.cell? ⟨g, of + (aj + 3) * 4 + 2, none⟩ = some (.int .u32 v3)) (((u.setCell ⟨w.heap.size + 1, 0, none⟩ x).setCell ⟨w.heap.size + 1, 1, none⟩ y).setCell ⟨w.heap.size + 1, 2, none⟩ z) from ⟨(cell_put3 (by omega) x y z).trans ((HVB.out.below h HVB.out.lt).cell 0), (cell_put3 (by omega) x y z).trans ((HVB.out.below h HVB.out.lt).cell 1), (cell_put3 (by omega) x y z).trans ((HVB.out.below h HVB.out.lt).cell 2), (cell_put3 (by omega) x y z).trans ((HQ.out u (below_step HBV.out h)).2.2.1), (cell_put3 (by omega) x y z).trans ((HQ2.out u (below_step HBV.out h)).2.2.1)⟩)
  have HLE : Hid (V.heap.size ≤ w2.drew.heap.size) := Lib.hid HB2.out.size
  clear hps v0 v1 v2
  go_upto_region 19 with fail
  simp only [HAA.out]
  refine wp_region_held_drew (S := (fun w' => w'.cell? ⟨w1.heap.size, 0, none⟩ = some (.slice A an.length c) ∧ w'.cell? ⟨w1.heap.size, 1, none⟩ = some (.int .i64 aj) ∧ w'.cell? ⟨w1.heap.size, 2, none⟩ = some (.int .i64 0) ∧ w'.cell? ⟨g, of + (aj + 1) * 4 + 2, none⟩ = some (.int .u32 v) ∧ w'.cell? ⟨g, of + (aj + 3) * 4 + 2, none⟩ = some (.int .u32 v3))) (by kernel_rfl) (HS.out _ (below_drew HB2.out)) (fun hHeld => ?_)
  refine wpAnyH_take (i := 0) (oi := { dst := some 90, op := Op.move (Operand.tmp 0), type := 56, pos := "ref.go:299", after := #[], guard := none }) (v := ?qv0) rfl (by kernel_rfl) (by kernel_rfl) (by kernel_rfl) (fun _ _ _ h => h) (Or.inl ⟨by rfl, ?qy0⟩) (by assumption) ?qr0
  case qy0 => (intro w hSw; (try dsimp only at hSw); go_simp; try (with_reducible rfl))
  try simp only [Act.put, List.setIfInBounds_toArray, List.set_cons_zero, List.set_cons_succ]
  refine wpAnyH_take (i := 1) (oi := { dst := some 91, op := Op.fieldAddr 88 (Operand.tmp 8) 1, type := 0, pos := "ref.go:299", after := #[], guard := none }) (v := ?qv1) rfl (by kernel_rfl) (by kernel_rfl) (by kernel_rfl) (fun _ _ _ h => h) (Or.inl ⟨by rfl, ?qy1⟩) (by assumption) ?qr1
  case qy1 => (intro w hSw; (try dsimp only at hSw); go_simp; try (with_reducible rfl))
  try simp only [Act.put, List.setIfInBounds_toArray, List.set_cons_zero, List.set_cons_succ]
  refine wpAnyH_take (i := 2) (oi := { dst := some 92, op := Op.load 3 (Operand.tmp 91), type := 3, pos := "ref.go:299", after := #[{ on := 1, ground := Ground.data }], guard := none }) (v := ?qv2) rfl (by kernel_rfl) (by kernel_rfl) (by kernel_rfl) (fun _ _ _ h => h) (Or.inl ⟨by rfl, ?qy2⟩) (by assumption) ?qr2
  case qy2 => (intro w hSw; (try dsimp only at hSw); go_simp; try (with_reducible rfl))
  try simp only [Act.put, List.setIfInBounds_toArray, List.set_cons_zero, List.set_cons_succ]
  refine wpAnyH_take (i := 3) (oi := { dst := some 93, op := Op.binOp BinOp.add 3 (Operand.tmp 92) (Operand.const (Value.int IntKind.i64 1)) 3, type := 3, pos := "ref.go:299", after := #[{ on := 2, ground := Ground.data }], guard := none }) (v := ?qv3) rfl (by kernel_rfl) (by kernel_rfl) (by kernel_rfl) (fun _ _ _ h => h) (Or.inl ⟨by rfl, ?qy3⟩) (by assumption) ?qr3
  case qy3 => (intro w hSw; (try dsimp only at hSw); go_simp; try (with_reducible rfl))
  try simp only [Act.put, List.setIfInBounds_toArray, List.set_cons_zero, List.set_cons_succ]
  refine wpAnyH_take (i := 4) (oi := { dst := some 94, op := Op.indexAddr 56 (Operand.tmp 90) (Operand.tmp 93), type := 0, pos := "ref.go:299", after := #[{ on := 0, ground := Ground.data }, { on := 3, ground := Ground.data }], guard := none }) (v := ?qv4) rfl (by kernel_rfl) (by kernel_rfl) (by kernel_rfl) (fun _ _ _ h => h) (Or.inl ⟨by rfl, ?qy4⟩) (by assumption) ?qr4
  case qy4 => (intro w hSw; (try dsimp only at hSw); go_simp; try (with_reducible rfl))
  try simp only [Act.put, List.setIfInBounds_toArray, List.set_cons_zero, List.set_cons_succ]
  refine wpAnyH_take (i := 5) (oi := { dst := some 95, op := Op.fieldAddr 90 (Operand.tmp 94) 2, type := 0, pos := "ref.go:299", after := #[{ on := 4, ground := Ground.data }], guard := none }) (v := ?qv5) rfl (by kernel_rfl) (by kernel_rfl) (by kernel_rfl) (fun _ _ _ h => h) (Or.inl ⟨by rfl, ?qy5⟩) (by assumption) ?qr5
  case qy5 => (intro w hSw; (try dsimp only at hSw); go_simp; try (with_reducible rfl))
  try simp only [Act.put, List.setIfInBounds_toArray, List.set_cons_zero, List.set_cons_succ]
  refine wpAnyH_take (i := 6) (oi := { dst := some 96, op := Op.load 79 (Operand.tmp 95), type := 79, pos := "ref.go:299", after := #[{ on := 5, ground := Ground.data }], guard := none }) (v := ?qv6) rfl (by kernel_rfl) (by kernel_rfl) (by kernel_rfl) (fun _ _ _ h => h) (Or.inl ⟨by rfl, ?qy6⟩) (by assumption) ?qr6
  case qy6 => (intro w hSw; (try dsimp only at hSw); go_simp; try (with_reducible rfl))
  try simp only [Act.put, List.setIfInBounds_toArray, List.set_cons_zero, List.set_cons_succ]
  refine wpAnyH_take (i := 7) (oi := { dst := some 97, op := Op.convert 79 3 (Operand.tmp 96), type := 3, pos := "ref.go:299", after := #[{ on := 6, ground := Ground.data }], guard := none }) (v := ?qv7) rfl (by kernel_rfl) (by kernel_rfl) (by kernel_rfl) (fun _ _ _ h => h) (Or.inl ⟨by rfl, ?qy7⟩) (by assumption) ?qr7
  case qy7 => (intro w hSw; (try dsimp only at hSw); go_simp; try (with_reducible rfl))
  try simp only [Act.put, List.setIfInBounds_toArray, List.set_cons_zero, List.set_cons_succ]
  refine wpAnyH_take (i := 8) (oi := { dst := some 98, op := Op.move (Operand.tmp 0), type := 56, pos := "ref.go:299", after := #[], guard := none }) (v := ?qv8) rfl (by kernel_rfl) (by kernel_rfl) (by kernel_rfl) (fun _ _ _ h => h) (Or.inl ⟨by rfl, ?qy8⟩) (by assumption) ?qr8
  case qy8 => (intro w hSw; (try dsimp only at hSw); go_simp; try (with_reducible rfl))
  try simp only [Act.put, List.setIfInBounds_toArray, List.set_cons_zero, List.set_cons_succ]
  refine wpAnyH_take (i := 9) (oi := { dst := some 99, op := Op.fieldAddr 88 (Operand.tmp 8) 1, type := 0, pos := "ref.go:299", after := #[], guard := none }) (v := ?qv9) rfl (by kernel_rfl) (by kernel_rfl) (by kernel_rfl) (fun _ _ _ h => h) (Or.inl ⟨by rfl, ?qy9⟩) (by assumption) ?qr9
  case qy9 => (intro w hSw; (try dsimp only at hSw); go_simp; try (with_reducible rfl))
  try simp only [Act.put, List.setIfInBounds_toArray, List.set_cons_zero, List.set_cons_succ]
  refine wpAnyH_take (i := 10) (oi := { dst := some 100, op := Op.load 3 (Operand.tmp 99), type := 3, pos := "ref.go:299", after := #[{ on := 9, ground := Ground.data }], guard := none }) (v := ?qv10) rfl (by kernel_rfl) (by kernel_rfl) (by kernel_rfl) (fun _ _ _ h => h) (Or.inl ⟨by rfl, ?qy10⟩) (by assumption) ?qr10
  case qy10 => (intro w hSw; (try dsimp only at hSw); go_simp; try (with_reducible rfl))
  try simp only [Act.put, List.setIfInBounds_toArray, List.set_cons_zero, List.set_cons_succ]
  refine wpAnyH_take (i := 11) (oi := { dst := some 101, op := Op.binOp BinOp.add 3 (Operand.tmp 100) (Operand.const (Value.int IntKind.i64 3)) 3, type := 3, pos := "ref.go:299", after := #[{ on := 10, ground := Ground.data }], guard := none }) (v := ?qv11) rfl (by kernel_rfl) (by kernel_rfl) (by kernel_rfl) (fun _ _ _ h => h) (Or.inl ⟨by rfl, ?qy11⟩) (by assumption) ?qr11
  case qy11 => (intro w hSw; (try dsimp only at hSw); go_simp; try (with_reducible rfl))
  try simp only [Act.put, List.setIfInBounds_toArray, List.set_cons_zero, List.set_cons_succ]
  refine wpAnyH_take (i := 12) (oi := { dst := some 102, op := Op.indexAddr 56 (Operand.tmp 98) (Operand.tmp 101), type := 0, pos := "ref.go:299", after := #[{ on := 8, ground := Ground.data }, { on := 11, ground := Ground.data }], guard := none }) (v := ?qv12) rfl (by kernel_rfl) (by kernel_rfl) (by kernel_rfl) (fun _ _ _ h => h) (Or.inl ⟨by rfl, ?qy12⟩) (by assumption) ?qr12
  case qy12 => (intro w hSw; (try dsimp only at hSw); go_simp; try (with_reducible rfl))
  try simp only [Act.put, List.setIfInBounds_toArray, List.set_cons_zero, List.set_cons_succ]
  refine wpAnyH_take (i := 13) (oi := { dst := some 103, op := Op.fieldAddr 90 (Operand.tmp 102) 2, type := 0, pos := "ref.go:299", after := #[{ on := 12, ground := Ground.data }], guard := none }) (v := ?qv13) rfl (by kernel_rfl) (by kernel_rfl) (by kernel_rfl) (fun _ _ _ h => h) (Or.inl ⟨by rfl, ?qy13⟩) (by assumption) ?qr13
  case qy13 => (intro w hSw; (try dsimp only at hSw); go_simp; try (with_reducible rfl))
  try simp only [Act.put, List.setIfInBounds_toArray, List.set_cons_zero, List.set_cons_succ]
  refine wpAnyH_take (i := 14) (oi := { dst := some 104, op := Op.load 79 (Operand.tmp 103), type := 79, pos := "ref.go:299", after := #[{ on := 13, ground := Ground.data }], guard := none }) (v := ?qv14) rfl (by kernel_rfl) (by kernel_rfl) (by kernel_rfl) (fun _ _ _ h => h) (Or.inl ⟨by rfl, ?qy14⟩) (by assumption) ?qr14
  case qy14 => (intro w hSw; (try dsimp only at hSw); go_simp; try (with_reducible rfl))
  try simp only [Act.put, List.setIfInBounds_toArray, List.set_cons_zero, List.set_cons_succ]
  refine wpAnyH_take (i := 15) (oi := { dst := some 105, op := Op.convert 79 3 (Operand.tmp 104), type := 3, pos := "ref.go:299", after := #[{ on := 14, ground := Ground.data }], guard := none }) (v := ?qv15) rfl (by kernel_rfl) (by kernel_rfl) (by kernel_rfl) (fun _ _ _ h => h) (Or.inl ⟨by rfl, ?qy15⟩) (by assumption) ?qr15
  case qy15 => (intro w hSw; (try dsimp only at hSw); go_simp; try (with_reducible rfl))
  try simp only [Act.put, List.setIfInBounds_toArray, List.set_cons_zero, List.set_cons_succ]
  refine wpAnyH_take (i := 16) (oi := { dst := some 106, op := Op.build 65 #[(0, Operand.const (Value.int IntKind.i64 8)), (1, Operand.tmp 97), (2, Operand.tmp 105)], type := 65, pos := "ref.go:299", after := #[{ on := 7, ground := Ground.data }, { on := 15, ground := Ground.data }], guard := none }) (v := ?qv16) rfl (by kernel_rfl) (by kernel_rfl) (by kernel_rfl) (fun _ _ _ h => h) (Or.inl ⟨by rfl, ?qy16⟩) (by assumption) ?qr16
  case qy16 => (intro w hSw; (try dsimp only at hSw); go_simp; try (with_reducible rfl))
  try simp only [Act.put, List.setIfInBounds_toArray, List.set_cons_zero, List.set_cons_succ]
  refine wpAnyH_take (i := 17) (oi := { dst := some 107, op := Op.load 88 (Operand.tmp 8), type := 88, pos := "ref.go:299", after := #[], guard := none }) (v := ?qv17) rfl (by kernel_rfl) (by kernel_rfl) (by kernel_rfl) (fun _ _ _ h => h) (Or.inl ⟨by rfl, ?qy17⟩) (by assumption) ?qr17
  case qy17 => (intro w hSw; (try dsimp only at hSw); go_simp; try (with_reducible rfl))
  try simp only [Act.put, List.setIfInBounds_toArray, List.set_cons_zero, List.set_cons_succ]
  refine wpAnyH_take (i := 18) (oi := { dst := some 108, op := Op.fieldAddr 88 (Operand.tmp 8) 1, type := 0, pos := "ref.go:299", after := #[], guard := none }) (v := ?qv18) rfl (by kernel_rfl) (by kernel_rfl) (by kernel_rfl) (fun _ _ _ h => h) (Or.inl ⟨by rfl, ?qy18⟩) (by assumption) ?qr18
  case qy18 => (intro w hSw; (try dsimp only at hSw); go_simp; try (with_reducible rfl))
  try simp only [Act.put, List.setIfInBounds_toArray, List.set_cons_zero, List.set_cons_succ]
  refine wpAnyH_take (i := 19) (oi := { dst := some 109, op := Op.load 3 (Operand.tmp 108), type := 3, pos := "ref.go:299", after := #[{ on := 18, ground := Ground.data }], guard := none }) (v := ?qv19) rfl (by kernel_rfl) (by kernel_rfl) (by kernel_rfl) (fun _ _ _ h => h) (Or.inl ⟨by rfl, ?qy19⟩) (by assumption) ?qr19
  case qy19 => (intro w hSw; (try dsimp only at hSw); go_simp; try (with_reducible rfl))
  try simp only [Act.put, List.setIfInBounds_toArray, List.set_cons_zero, List.set_cons_succ]
  refine wpAnyH_take (i := 20) (oi := { dst := some 110, op := Op.binOp BinOp.add 3 (Operand.tmp 109) (Operand.const (Value.int IntKind.i64 5)) 3, type := 3, pos := "ref.go:299", after := #[{ on := 19, ground := Ground.data }], guard := none }) (v := ?qv20) rfl (by kernel_rfl) (by kernel_rfl) (by kernel_rfl) (fun _ _ _ h => h) (Or.inl ⟨by rfl, ?qy20⟩) (by assumption) ?qr20
  case qy20 => (intro w hSw; (try dsimp only at hSw); go_simp; try (with_reducible rfl))
  try simp only [Act.put, List.setIfInBounds_toArray, List.set_cons_zero, List.set_cons_succ]
  refine wpAnyH_take (i := 21) (oi := { dst := some 111, op := Op.build 88 #[(1, Operand.tmp 110)], type := 88, pos := "ref.go:299", after := #[{ on := 20, ground := Ground.data }], guard := none }) (v := ?qv21) rfl (by kernel_rfl) (by kernel_rfl) (by kernel_rfl) (fun _ _ _ h => h) (Or.inl ⟨by rfl, ?qy21⟩) (by assumption) ?qr21
  case qy21 => (intro w hSw; (try dsimp only at hSw); go_simp; try (with_reducible rfl))
  try simp only [Act.put, List.setIfInBounds_toArray, List.set_cons_zero, List.set_cons_succ]
  refine wpAnyH_ready (rs := [22]) (by kernel_rfl) (by simp) ?_
  refine AllReadyH.cons (o := { dst := some 112, op := Op.call { callee := Callee.value (Operand.func 67), args := #[Operand.tmp 106, Operand.tmp 107, Operand.tmp 111], argTypes := #[65, 88, 88] }, type := 88, pos := "ref.go:299", after := #[{ on := 16, ground := Ground.data }, { on := 17, ground := Ground.data }, { on := 21, ground := Ground.data }], guard := none }) rfl (fun K hK => ?_) AllReadyH.nil
  go_simp
  go_at_call 67
  refine (HPX.out _ (below_drew HB2.out)).mono ?_
  rintro r w5 ⟨⟨A5, c5, rfl, hl5, hn5, hf5⟩, hb5⟩
  have HB5 : Hid (Below V.heap.size V w5) := Lib.hid (below_step (below_drew HB2.out) hb5)
  have HL5 := Lib.hid hl5
  have HN5 := Lib.hid hn5
  have HF5 := Lib.hid hf5
  have hNEW := HS.out w5 HB5.out
  refine hK.out _ _ hNEW (fun hHeld5 => ?_)
  clear hK K hl5 hn5 hf5 hb5 hNEW
  refine wpAnyH_ready (rs := [23]) (by kernel_rfl) (by simp) ?_
  refine AllReadyH.cons (o := { dst := none, op := Op.store 88 (Operand.tmp 6) (Operand.tmp 112), type := 0, pos := "ref.go:299", after := #[{ on := 22, ground := Ground.data }, { on := 22, ground := Ground.chain }, { on := 0, ground := Ground.phase }, { on := 1, ground := Ground.phase }, { on := 2, ground := Ground.phase }, { on := 3, ground := Ground.phase }, { on := 4, ground := Ground.phase }, { on := 5, ground := Ground.phase }, { on := 6, ground := Ground.phase }, { on := 7, ground := Ground.phase }, { on := 8, ground := Ground.phase }, { on := 9, ground := Ground.phase }, { on := 10, ground := Ground.phase }, { on := 11, ground := Ground.phase }, { on := 12, ground := Ground.phase }, { on := 13, ground := Ground.phase }, { on := 14, ground := Ground.phase }, { on := 15, ground := Ground.phase }, { on := 16, ground := Ground.phase }, { on := 17, ground := Ground.phase }, { on := 18, ground := Ground.phase }, { on := 19, ground := Ground.phase }, { on := 20, ground := Ground.phase }, { on := 21, ground := Ground.phase }, { on := 22, ground := Ground.phase }], guard := none }) rfl (fun K hK => ?_) AllReadyH.nil
  have HRU := Lib.hid (HRB.out w5 (below_step HBV.out HB5.out))
  have r0 : w5.cell? ⟨w.heap.size + 1, 0, none⟩ = some (.slice none 0 0) := HRU.out.cell 0
  have r1 : w5.cell? ⟨w.heap.size + 1, 1, none⟩ = some (.int .i64 0) := HRU.out.cell 1
  have r2 : w5.cell? ⟨w.heap.size + 1, 2, none⟩ = some (.int .i64 0) := HRU.out.cell 2
  have g0 : w5.frozen? ⟨w.heap.size + 1, 0, none⟩ = false := HRU.out.frozen 0
  have g1 : w5.frozen? ⟨w.heap.size + 1, 1, none⟩ = false := HRU.out.frozen 1
  have g2 : w5.frozen? ⟨w.heap.size + 1, 2, none⟩ = false := HRU.out.frozen 2
  go_simp
  have hNEW := HS2.out w5 HB5.out (.slice A5 rn.length c5) (.int .i64 rj) (.int .i64 re)
  refine hK.out _ _ hNEW (fun hHeld9 => ?_)
  clear hK K hNEW hHeld9 r0 r1 r2 g0 g1 g2
  refine wpAnyH_done (by kernel_rfl) ?_ _
  have HFAR : Hid (w.heap.size ≤ V.heap.size ∧ w.heap.size + 1 < V.heap.size) := Lib.hid (by have := HBV.out.size; have := HSZ.out; omega)
  go_wp2
  refine bodyPost_ret (v := .agg #[.slice A5 rn.length c5, .int .i64 rj, .int .i64 re]) ?_ rfl ?_
  · exact results_cell_row (fn := Tryz.f30) (p := 6) (ty := 88) rfl _ _ (w.heap.size + 1) 88 #[.slice A5 rn.length c5, .int .i64 rj, .int .i64 re] (0, 0) _ rfl (rput3 HRU.out _ _ _) Tryz.underlying88 rfl (by kernel_rfl)
  · exact RG.put (R := ⟨rn, rj, re⟩) (A := A5) (c := c5) (W := V) (Nat.le_succ _) (below_step HW.out (below_step HBV.out HB5.out)) HL5.out HN5.out (fun a h => Nat.le_trans HLE.out (HF5.out a h)) HFAR.out _ _ _ rfl
set_option maxRecDepth 100000 in
set_option maxHeartbeats 8000000 in
theorem rexBin {x : L Tk} {p : ProgD} {ps : L FieldD} {i : Nat} {w : World} {opd : Nat → Pd} {R : Pd} (E : REnv w x p ps) (hO : ROpdOk x p ps opd i) (hB : ∀ j, j ≤ x.l.length → RBd x.l j (opd j)) (hi : i ≤ x.l.length) (h126 : isSym x.l [126] i = false) (hz : (opd i).e = 0) (hlt : isSym x.l [60, 60] (opd i).at_ = false) (hgg : isSym x.l [62, 62] (opd i).at_ = false) (h91 : isSym x.l [91] (opd i).at_ = false) (hop : 0 < rOper x.l (opd i).at_) (hR : R = rPre ⟨rOper x.l (opd i).at_, 0, 0⟩ (opd i) (opd ((opd i).at_ + 1))) :
    Calls Tryz.prog 30 #[.slice x.A x.l.length x.c, .int .i64 i, .agg (scopeCells p ps)] w (RG w R) := by
  obtain ⟨W, hW, hw, hsz, hb1, hb2⟩ := boxR w (scopeCells p ps) 44 #[.slice none 0 0, .int .i64 0, .int .i64 0] 88
  have HW := Lib.hid hw
  have HE := Lib.hid (E.below hw)
  have HRB := Lib.hid (fun u (h : Below W.heap.size W u) => hb2.below h hb2.lt)
  have hps := fun u (h : Below W.heap.size W u) => (show ∀ i, i < (scopeCells p ps).size → u.cell? ⟨w.heap.size, i, none⟩ = (scopeCells p ps)[i]? from fun i _ => (hb1.below h hb1.lt).cell i)
  have HSZ : Hid (W.heap.size = w.heap.size + 2) := Lib.hid hsz
  have HB := Below.refl W.heap.size W
  have hm := E.few
  clear hw hsz hb1 hb2
  have H126 := Lib.hid (fun u (h : Below W.heap.size W u) => show Calls Tryz.prog 65 #[.slice x.A x.l.length x.c, .int .i64 i, .string ⟨#[126]⟩] u fun e w' => e = .returned (.bool false) ∧ u = w' from by
    have := rsym_any x (i) ⟨#[126]⟩ u (HE.out.toks.below h (Nat.le_refl _))
    rw [show isSym x.l (⟨#[126]⟩ : ByteArray).data.toList (i) = false by assumption] at this
    exact this)
  have HA := Lib.hid (fun u (h : Below W.heap.size W u) => show Calls Tryz.prog 66 #[.slice x.A x.l.length x.c, .int .i64 i, .agg (scopeCells p ps)] u (RG u (opd i)) from hO u (i) (by omega) (by omega) (HE.out.below h))
  have hba := hB i hi
  have ha1 := hba.n
  have ha2 := hba.ok
  have ha3 := hba.top
  clear hba
  generalize opd i = a at *
  obtain ⟨an, aj, ae⟩ := a
  simp only at hz hlt hgg h91 hop hR ⊢
  subst hz
  obtain ⟨ha4, ha5⟩ := ha2 rfl
  clear ha2
  simp only at ha4 ha5
  have HLT := Lib.hid (fun u (h : Below W.heap.size W u) => show Calls Tryz.prog 65 #[.slice x.A x.l.length x.c, .int .i64 aj, .string ⟨#[60, 60]⟩] u fun e w' => e = .returned (.bool false) ∧ u = w' from by
    have := rsym_any x (aj) ⟨#[60, 60]⟩ u (HE.out.toks.below h (Nat.le_refl _))
    rw [show isSym x.l (⟨#[60, 60]⟩ : ByteArray).data.toList (aj) = false by assumption] at this
    exact this)
  have HGG := Lib.hid (fun u (h : Below W.heap.size W u) => show Calls Tryz.prog 65 #[.slice x.A x.l.length x.c, .int .i64 aj, .string ⟨#[62, 62]⟩] u fun e w' => e = .returned (.bool false) ∧ u = w' from by
    have := rsym_any x (aj) ⟨#[62, 62]⟩ u (HE.out.toks.below h (Nat.le_refl _))
    rw [show isSym x.l (⟨#[62, 62]⟩ : ByteArray).data.toList (aj) = false by assumption] at this
    exact this)
  have H91 := Lib.hid (fun u (h : Below W.heap.size W u) => show Calls Tryz.prog 65 #[.slice x.A x.l.length x.c, .int .i64 aj, .string ⟨#[91]⟩] u fun e w' => e = .returned (.bool false) ∧ u = w' from by
    have := rsym_any x (aj) ⟨#[91]⟩ u (HE.out.toks.below h (Nat.le_refl _))
    rw [show isSym x.l (⟨#[91]⟩ : ByteArray).data.toList (aj) = false by assumption] at this
    exact this)
  have HBI := Lib.hid (fun u (h : Below W.heap.size W u) => show Calls Tryz.prog 70 #[.slice x.A x.l.length x.c, .int .i64 aj] u fun e w' => e = .returned (.int .i64 (rOper x.l aj)) ∧ u = w' from rbin_any x aj u (HE.out.toks.below h (Nat.le_refl _)))
  have hal : aj < x.l.length := by
    rcases Nat.lt_or_ge aj x.l.length with h1 | h1
    · exact h1
    · rw [rOper, List.getElem?_eq_none h1] at hop; exact absurd hop (by decide)
  have HOB := Lib.hid (fun u (h : Below W.heap.size W u) => show Calls Tryz.prog 66 #[.slice x.A x.l.length x.c, .int .i64 ((aj : Int) + 1), .agg (scopeCells p ps)] u (RG u (opd (aj + 1))) from hO u (aj + 1) (by omega) (by omega) (HE.out.below h))
  have hbb := hB (aj + 1) (by omega)
  have hb1 := hbb.n
  clear hbb
  generalize opd (aj + 1) = b at *
  obtain ⟨bn, bj, be⟩ := b
  generalize rOper x.l aj = o at *
  have hop' : decide (0 < o) = true := decide_eq_true hop
  have hwr : IntKind.i64.wrap ((aj : Int) + 1) = (aj : Int) + 1 := IntWalk.i64_in _ (by omega)
  obtain ⟨rn, rj, re⟩ := R
  simp only at hb1 ⊢
  have hp1 := hps W HB
  clear E hO hB
  go_enter Tryz.func30, Tryz.ntmps30
  go_upto_region 1 with fail
  rw [← hW]
  clear hW
  go_wp2_with fail
  refine (H126.out W HB).mono ?_
  rintro r w' ⟨rfl, rfl⟩
  go_wp2_with fail
  refine (HA.out W HB).mono ?_
  rintro r w1 ⟨⟨A, c, rfl, hl, hn, hf⟩, hb1⟩
  have HB1 := Lib.hid hb1
  have HL1 := Lib.hid hl
  have HN := Lib.hid hn
  have HF := Lib.hid hf
  clear hb1 hl hn hf HA hp1
  go_upto_region 5 with fail
  obtain ⟨V, hV⟩ : ∃ V, V = w1.alloc (.cells #[.slice A an.length c, .int .i64 aj, .int .i64 0] 88) := ⟨_, rfl⟩
  have HVB : Hid (Blk V w1.heap.size 88 #[.slice A an.length c, .int .i64 aj, .int .i64 0]) := Lib.hid (by rw [hV]; exact Blk.new _ _ _)
  have HBV : Hid (Below W.heap.size W V) := Lib.hid (by rw [hV]; exact below_alloc HB1.out _)
  have HLV : Hid (LOk V 3 NodeD.cells ⟨an, A, c⟩) := Lib.hid (by rw [hV]; exact HL1.out.below (below1 _ _) (Nat.le_refl _))
  have HFW : Hid (∀ a, A = some a → w.heap.size ≤ a.block ∧ a.block ≠ w.heap.size + 1) := Lib.hid (fun a h => by have := HF.out a h; have := HSZ.out; omega)
  have hne : w.heap.size + 2 ≤ w1.heap.size := by have := HB1.out.size; have := HSZ.out; omega
  rw [← hV]
  clear hV
  have v0 : V.cell? ⟨w1.heap.size, 0, none⟩ = some (.slice A an.length c) := HVB.out.cell 0
  have v1 : V.cell? ⟨w1.heap.size, 1, none⟩ = some (.int .i64 aj) := HVB.out.cell 1
  have v2 : V.cell? ⟨w1.heap.size, 2, none⟩ = some (.int .i64 0) := HVB.out.cell 2
  go_wp2_with fail
  refine (HGG.out V HBV.out).mono ?_
  rintro r w' ⟨rfl, rfl⟩
  go_wp2_with fail
  refine (HLT.out V HBV.out).mono ?_
  rintro r w' ⟨rfl, rfl⟩
  go_wp2_with fail
  refine (HGG.out V HBV.out).mono ?_
  rintro r w' ⟨rfl, rfl⟩
  go_wp2_with fail
  refine (H91.out V HBV.out).mono ?_
  rintro r w' ⟨rfl, rfl⟩
  go_wp2_with fail
  refine (HBI.out V HBV.out).mono ?_
  rintro r w' ⟨rfl, rfl⟩
  have HPX := Lib.hid (fun u (B : Option Addr) (d : Nat) (h : Below V.heap.size V u) (hl : LOk u 3 NodeD.cells ⟨bn, B, d⟩) (hn : B = none → d = 0) => show Calls Tryz.prog 67 #[.agg #[.int .i64 o, .int .i64 0, .int .i64 0], .agg #[.slice A an.length c, .int .i64 aj, .int .i64 0], .agg #[.slice B bn.length d, .int .i64 bj, .int .i64 be]] u (RG u ⟨rn, rj, re⟩) from by
    rw [hR]; exact rprefix_any ⟨o, 0, 0⟩ ⟨an, aj, 0⟩ ⟨bn, bj, be⟩ A B c d u (HLV.out.below h (Nat.le_refl _)) HN.out hl hn (by simp only; omega))
  clear hR
  have HS := Lib.hid (fun u (h : Below V.heap.size V u) => show (fun w' => w'.cell? ⟨w1.heap.size, 0, none⟩ = some (.slice A an.length c) ∧ w'.cell? ⟨w1.heap.size, 1, none⟩ = some (.int .i64 aj) ∧ w'.cell? ⟨w1.heap.size, 2, none⟩ = some (.int .i64 0) ∧ (∀ i, i < (scopeCells p ps).size → w'.cell? ⟨w.heap.size, i, none⟩ = (scopeCells p ps)[i]?)) u from ⟨(HVB.out.below h HVB.out.lt).cell 0, (HVB.out.below h HVB.out.lt).cell 1, (HVB.out.below h HVB.out.lt).cell 2, fun i hi => hps u (below_step HBV.out h) i hi⟩)
  have HS2 := Lib.hid (fun u (h : Below V.heap.size V u) (x y z : Value) => show (fun w' => w'.cell? ⟨w1.heap.size, 0, none⟩ = some (.slice A an.length c) ∧ w'.cell? ⟨w1.heap.size, 1, none⟩ = some (.int .i64 aj) ∧ w'.cell? ⟨w1.heap.size, 2, none⟩ = some (.int .i64 0) ∧ (∀ i, i < (scopeCells p ps).size → w'.cell? ⟨w.heap.size, i, none⟩ = (scopeCells p ps)[i]?)) (((u.setCell ⟨w.heap.size + 1, 0, none⟩ x).setCell ⟨w.heap.size + 1, 1, none⟩ y).setCell ⟨w.heap.size + 1, 2, none⟩ z) from ⟨(cell_put3 (by omega) x y z).trans ((HVB.out.below h HVB.out.lt).cell 0), (cell_put3 (by omega) x y z).trans ((HVB.out.below h HVB.out.lt).cell 1), (cell_put3 (by omega) x y z).trans ((HVB.out.below h HVB.out.lt).cell 2), fun i hi => (cell_put3 (by omega) x y z).trans ((fun i hi => hps u (below_step HBV.out h) i hi) i hi)⟩)
  have H0V := Lib.hid (Below.refl V.heap.size V)
  clear v0 v1 v2
  go_upto_region 21 with fail
  refine wp_region_held_drew (S := (fun w' => w'.cell? ⟨w1.heap.size, 0, none⟩ = some (.slice A an.length c) ∧ w'.cell? ⟨w1.heap.size, 1, none⟩ = some (.int .i64 aj) ∧ w'.cell? ⟨w1.heap.size, 2, none⟩ = some (.int .i64 0) ∧ (∀ i, i < (scopeCells p ps).size → w'.cell? ⟨w.heap.size, i, none⟩ = (scopeCells p ps)[i]?))) (by kernel_rfl) (HS.out _ (below_drew H0V.out)) (fun hHeld => ?_)
  refine wpAnyH_take (i := 0) (oi := { dst := some 119, op := Op.move (Operand.tmp 0), type := 56, pos := "ref.go:301", after := #[], guard := none }) (v := ?bv0) rfl (by kernel_rfl) (by kernel_rfl) (by kernel_rfl) (fun _ _ _ h => h) (Or.inl ⟨by rfl, ?by0⟩) (by assumption) ?br0
  case by0 => (intro w hSw; (try dsimp only at hSw); go_simp; try (with_reducible rfl))
  try simp only [Act.put, List.setIfInBounds_toArray, List.set_cons_zero, List.set_cons_succ]
  refine wpAnyH_take (i := 1) (oi := { dst := some 120, op := Op.fieldAddr 88 (Operand.tmp 8) 1, type := 0, pos := "ref.go:301", after := #[], guard := none }) (v := ?bv1) rfl (by kernel_rfl) (by kernel_rfl) (by kernel_rfl) (fun _ _ _ h => h) (Or.inl ⟨by rfl, ?by1⟩) (by assumption) ?br1
  case by1 => (intro w hSw; (try dsimp only at hSw); go_simp; try (with_reducible rfl))
  try simp only [Act.put, List.setIfInBounds_toArray, List.set_cons_zero, List.set_cons_succ]
  refine wpAnyH_take (i := 2) (oi := { dst := some 121, op := Op.load 3 (Operand.tmp 120), type := 3, pos := "ref.go:301", after := #[{ on := 1, ground := Ground.data }], guard := none }) (v := ?bv2) rfl (by kernel_rfl) (by kernel_rfl) (by kernel_rfl) (fun _ _ _ h => h) (Or.inl ⟨by rfl, ?by2⟩) (by assumption) ?br2
  case by2 => (intro w hSw; (try dsimp only at hSw); go_simp; try (with_reducible rfl))
  try simp only [Act.put, List.setIfInBounds_toArray, List.set_cons_zero, List.set_cons_succ]
  refine wpAnyH_take (i := 5) (oi := { dst := some 124, op := Op.load 88 (Operand.tmp 8), type := 88, pos := "ref.go:301", after := #[], guard := none }) (v := ?bv5) rfl (by kernel_rfl) (by kernel_rfl) (by kernel_rfl) (fun _ _ _ h => h) (Or.inl ⟨by rfl, ?by5⟩) (by assumption) ?br5
  case by5 => (intro w hSw; (try dsimp only at hSw); go_simp; try (with_reducible rfl))
  try simp only [Act.put, List.setIfInBounds_toArray, List.set_cons_zero, List.set_cons_succ]
  refine wpAnyH_take (i := 6) (oi := { dst := some 125, op := Op.move (Operand.tmp 0), type := 56, pos := "ref.go:301", after := #[], guard := none }) (v := ?bv6) rfl (by kernel_rfl) (by kernel_rfl) (by kernel_rfl) (fun _ _ _ h => h) (Or.inl ⟨by rfl, ?by6⟩) (by assumption) ?br6
  case by6 => (intro w hSw; (try dsimp only at hSw); go_simp; try (with_reducible rfl))
  try simp only [Act.put, List.setIfInBounds_toArray, List.set_cons_zero, List.set_cons_succ]
  refine wpAnyH_take (i := 7) (oi := { dst := some 126, op := Op.fieldAddr 88 (Operand.tmp 8) 1, type := 0, pos := "ref.go:301", after := #[], guard := none }) (v := ?bv7) rfl (by kernel_rfl) (by kernel_rfl) (by kernel_rfl) (fun _ _ _ h => h) (Or.inl ⟨by rfl, ?by7⟩) (by assumption) ?br7
  case by7 => (intro w hSw; (try dsimp only at hSw); go_simp; try (with_reducible rfl))
  try simp only [Act.put, List.setIfInBounds_toArray, List.set_cons_zero, List.set_cons_succ]
  refine wpAnyH_take (i := 8) (oi := { dst := some 127, op := Op.load 3 (Operand.tmp 126), type := 3, pos := "ref.go:301", after := #[{ on := 7, ground := Ground.data }], guard := none }) (v := ?bv8) rfl (by kernel_rfl) (by kernel_rfl) (by kernel_rfl) (fun _ _ _ h => h) (Or.inl ⟨by rfl, ?by8⟩) (by assumption) ?br8
  case by8 => (intro w hSw; (try dsimp only at hSw); go_simp; try (with_reducible rfl))
  try simp only [Act.put, List.setIfInBounds_toArray, List.set_cons_zero, List.set_cons_succ]
  refine wpAnyH_take (i := 9) (oi := { dst := some 128, op := Op.binOp BinOp.add 3 (Operand.tmp 127) (Operand.const (Value.int IntKind.i64 1)) 3, type := 3, pos := "ref.go:301", after := #[{ on := 8, ground := Ground.data }], guard := none }) (v := ?bv9) rfl (by kernel_rfl) (by kernel_rfl) (by kernel_rfl) (fun _ _ _ h => h) (Or.inl ⟨by rfl, ?by9⟩) (by assumption) ?br9
  case by9 => (intro w hSw; (try dsimp only at hSw); go_simp; try (with_reducible rfl))
  try simp only [Act.put, List.setIfInBounds_toArray, List.set_cons_zero, List.set_cons_succ]
  refine wpAnyH_take (i := 10) (oi := { dst := some 129, op := Op.load 44 (Operand.tmp 5), type := 44, pos := "ref.go:301", after := #[], guard := none }) (v := ?bv10) rfl (by kernel_rfl) (by kernel_rfl) (by kernel_rfl) (fun _ _ _ h => h) (Or.inl ⟨by rfl, ?by10⟩) (by assumption) ?br10
  case by10 => (intro w hSw; (try dsimp only at hSw); go_simp; try (with_reducible rfl))
  try simp only [Act.put, List.setIfInBounds_toArray, List.set_cons_zero, List.set_cons_succ]
  refine wpAnyH_ready (rs := [3]) (by kernel_rfl) (by simp) ?_
  refine AllReadyH.cons (o := { dst := some 122, op := Op.call { callee := Callee.value (Operand.func 70), args := #[Operand.tmp 119, Operand.tmp 121], argTypes := #[56, 3] }, type := 3, pos := "ref.go:301", after := #[{ on := 0, ground := Ground.data }, { on := 2, ground := Ground.data }], guard := none }) rfl (fun K hK => ?_) AllReadyH.nil
  go_simp
  go_at_call 70
  refine (HBI.out _ (below_step HBV.out (below_drew H0V.out))).mono ?_
  rintro r w' ⟨rfl, rfl⟩
  have hNEW := HS.out _ (below_drew H0V.out)
  refine hK.out _ _ hNEW (fun hHeld3 => ?_)
  clear hK K hNEW
  try simp only [Act.put, List.setIfInBounds_toArray, List.set_cons_zero, List.set_cons_succ]
  refine wpAnyH_take (i := 4) (oi := { dst := some 123, op := Op.build 65 #[(0, Operand.tmp 122)], type := 65, pos := "ref.go:301", after := #[{ on := 3, ground := Ground.data }], guard := none }) (v := ?bv4) rfl (by kernel_rfl) (by kernel_rfl) (by kernel_rfl) (fun _ _ _ h => h) (Or.inl ⟨by rfl, ?by4⟩) (by assumption) ?br4
  case by4 => (intro w hSw; (try dsimp only at hSw); go_simp; try (with_reducible rfl))
  try simp only [Act.put, List.setIfInBounds_toArray, List.set_cons_zero, List.set_cons_succ]
  refine wpAnyH_ready (rs := [11]) (by kernel_rfl) (by simp) ?_
  refine AllReadyH.cons (o := { dst := some 130, op := Op.call { callee := Callee.value (Operand.func 66), args := #[Operand.tmp 125, Operand.tmp 128, Operand.tmp 129], argTypes := #[56, 3, 44] }, type := 88, pos := "ref.go:301", after := #[{ on := 6, ground := Ground.data }, { on := 9, ground := Ground.data }, { on := 10, ground := Ground.data }, { on := 3, ground := Ground.chain }], guard := none }) rfl (fun K hK => ?_) AllReadyH.nil
  go_simp
  go_at_call 66
  refine (HOB.out _ (below_step HBV.out (below_drew H0V.out))).mono ?_
  rintro r w4 ⟨⟨A4, c4, rfl, hl4, hn4, hf4⟩, hb4⟩
  have HB4 : Hid (Below V.heap.size V w4) := Lib.hid (below_step (below_drew H0V.out) hb4)
  have HL4 := Lib.hid hl4
  have HN4 := Lib.hid hn4
  have HF4 := Lib.hid hf4
  have hNEW := HS.out w4 HB4.out
  refine hK.out _ _ hNEW (fun hHeld4 => ?_)
  clear hK K hl4 hn4 hf4 hb4 hNEW
  refine wpAnyH_ready (rs := [12]) (by kernel_rfl) (by simp) ?_
  refine AllReadyH.cons (o := { dst := some 131, op := Op.call { callee := Callee.value (Operand.func 67), args := #[Operand.tmp 123, Operand.tmp 124, Operand.tmp 130], argTypes := #[65, 88, 88] }, type := 88, pos := "ref.go:301", after := #[{ on := 4, ground := Ground.data }, { on := 5, ground := Ground.data }, { on := 11, ground := Ground.data }, { on := 11, ground := Ground.chain }], guard := none }) rfl (fun K hK => ?_) AllReadyH.nil
  go_simp
  go_at_call 67
  refine (HPX.out _ A4 c4 HB4.out HL4.out HN4.out).mono ?_
  rintro r w5 ⟨⟨A5, c5, rfl, hl5, hn5, hf5⟩, hb5⟩
  have HB5 : Hid (Below V.heap.size V w5) := Lib.hid (below_step HB4.out hb5)
  have HL5 := Lib.hid hl5
  have HN5 := Lib.hid hn5
  have HF5 := Lib.hid hf5
  have hNEW := HS.out w5 HB5.out
  refine hK.out _ _ hNEW (fun hHeld5 => ?_)
  clear hK K hl5 hn5 hf5 hb5 hNEW
  refine wpAnyH_ready (rs := [13]) (by kernel_rfl) (by simp) ?_
  refine AllReadyH.cons (o := { dst := none, op := Op.store 88 (Operand.tmp 6) (Operand.tmp 131), type := 0, pos := "ref.go:301", after := #[{ on := 12, ground := Ground.data }, { on := 12, ground := Ground.chain }, { on := 0, ground := Ground.phase }, { on := 1, ground := Ground.phase }, { on := 2, ground := Ground.phase }, { on := 3, ground := Ground.phase }, { on := 4, ground := Ground.phase }, { on := 5, ground := Ground.phase }, { on := 6, ground := Ground.phase }, { on := 7, ground := Ground.phase }, { on := 8, ground := Ground.phase }, { on := 9, ground := Ground.phase }, { on := 10, ground := Ground.phase }, { on := 11, ground := Ground.phase }, { on := 12, ground := Ground.phase }], guard := none }) rfl (fun K hK => ?_) AllReadyH.nil
  have HRU := Lib.hid (HRB.out w5 (below_step HBV.out HB5.out))
  have r0 : w5.cell? ⟨w.heap.size + 1, 0, none⟩ = some (.slice none 0 0) := HRU.out.cell 0
  have r1 : w5.cell? ⟨w.heap.size + 1, 1, none⟩ = some (.int .i64 0) := HRU.out.cell 1
  have r2 : w5.cell? ⟨w.heap.size + 1, 2, none⟩ = some (.int .i64 0) := HRU.out.cell 2
  have g0 : w5.frozen? ⟨w.heap.size + 1, 0, none⟩ = false := HRU.out.frozen 0
  have g1 : w5.frozen? ⟨w.heap.size + 1, 1, none⟩ = false := HRU.out.frozen 1
  have g2 : w5.frozen? ⟨w.heap.size + 1, 2, none⟩ = false := HRU.out.frozen 2
  go_simp
  have hNEW := HS2.out w5 HB5.out (.slice A5 rn.length c5) (.int .i64 rj) (.int .i64 re)
  refine hK.out _ _ hNEW (fun hHeld9 => ?_)
  clear hK K hNEW hHeld9 r0 r1 r2 g0 g1 g2
  refine wpAnyH_done (by kernel_rfl) ?_ _
  have HLE : Hid (V.heap.size ≤ w4.heap.size) := Lib.hid HB4.out.size
  have HFAR : Hid (w.heap.size ≤ V.heap.size ∧ w.heap.size + 1 < V.heap.size) := Lib.hid (by have := HBV.out.size; have := HSZ.out; omega)
  go_wp2
  refine bodyPost_ret (v := .agg #[.slice A5 rn.length c5, .int .i64 rj, .int .i64 re]) ?_ rfl ?_
  · exact results_cell_row (fn := Tryz.f30) (p := 6) (ty := 88) rfl _ _ (w.heap.size + 1) 88 #[.slice A5 rn.length c5, .int .i64 rj, .int .i64 re] (0, 0) _ rfl (rput3 HRU.out _ _ _) Tryz.underlying88 rfl (by kernel_rfl)
  · exact RG.put (R := ⟨rn, rj, re⟩) (A := A5) (c := c5) (W := V) (Nat.le_succ _) (below_step HW.out (below_step HBV.out HB5.out)) HL5.out HN5.out (fun a h => Nat.le_trans HLE.out (HF5.out a h)) HFAR.out _ _ _ rfl
set_option maxRecDepth 100000 in
set_option maxHeartbeats 8000000 in
theorem rexIfY {x : L Tk} {p : ProgD} {ps : L FieldD} {i : Nat} {w : World} {opd : Nat → Pd} {R : Pd} (E : REnv w x p ps) (hO : ROpdOk x p ps opd i) (hB : ∀ j, j ≤ x.l.length → RBd x.l j (opd j)) (hi : i ≤ x.l.length) (h126 : isSym x.l [126] i = false) (hz : (opd i).e = 0) (hlt : isSym x.l [60, 60] (opd i).at_ = false) (hgg : isSym x.l [62, 62] (opd i).at_ = false) (h91 : isSym x.l [91] (opd i).at_ = false) (hop : ¬ 0 < rOper x.l (opd i).at_) (h63 : isSym x.l [63] (opd i).at_ = true) (hy : (opd ((opd i).at_ + 1)).e ≠ 0) (hR : R = opd ((opd i).at_ + 1)) :
    Calls Tryz.prog 30 #[.slice x.A x.l.length x.c, .int .i64 i, .agg (scopeCells p ps)] w (RG w R) := by
  subst hR
  obtain ⟨W, hW, hw, hsz, hb1, hb2⟩ := boxR w (scopeCells p ps) 44 #[.slice none 0 0, .int .i64 0, .int .i64 0] 88
  have HW := Lib.hid hw
  have HE := Lib.hid (E.below hw)
  have HRB := Lib.hid (fun u (h : Below W.heap.size W u) => hb2.below h hb2.lt)
  have hps := fun u (h : Below W.heap.size W u) => (show ∀ i, i < (scopeCells p ps).size → u.cell? ⟨w.heap.size, i, none⟩ = (scopeCells p ps)[i]? from fun i _ => (hb1.below h hb1.lt).cell i)
  have HSZ : Hid (W.heap.size = w.heap.size + 2) := Lib.hid hsz
  have HB := Below.refl W.heap.size W
  have hm := E.few
  clear hw hsz hb1 hb2
  have H126 := Lib.hid (fun u (h : Below W.heap.size W u) => show Calls Tryz.prog 65 #[.slice x.A x.l.length x.c, .int .i64 i, .string ⟨#[126]⟩] u fun e w' => e = .returned (.bool false) ∧ u = w' from by
    have := rsym_any x (i) ⟨#[126]⟩ u (HE.out.toks.below h (Nat.le_refl _))
    rw [show isSym x.l (⟨#[126]⟩ : ByteArray).data.toList (i) = false by assumption] at this
    exact this)
  have HA := Lib.hid (fun u (h : Below W.heap.size W u) => show Calls Tryz.prog 66 #[.slice x.A x.l.length x.c, .int .i64 i, .agg (scopeCells p ps)] u (RG u (opd i)) from hO u (i) (by omega) (by omega) (HE.out.below h))
  have hba := hB i hi
  have ha1 := hba.n
  have ha2 := hba.ok
  have ha3 := hba.top
  clear hba
  generalize opd i = a at *
  obtain ⟨an, aj, ae⟩ := a
  simp only at hz hlt hgg h91 hop h63 hy ⊢
  subst hz
  obtain ⟨ha4, ha5⟩ := ha2 rfl
  clear ha2
  simp only at ha4 ha5
  have HLT := Lib.hid (fun u (h : Below W.heap.size W u) => show Calls Tryz.prog 65 #[.slice x.A x.l.length x.c, .int .i64 aj, .string ⟨#[60, 60]⟩] u fun e w' => e = .returned (.bool false) ∧ u = w' from by
    have := rsym_any x (aj) ⟨#[60, 60]⟩ u (HE.out.toks.below h (Nat.le_refl _))
    rw [show isSym x.l (⟨#[60, 60]⟩ : ByteArray).data.toList (aj) = false by assumption] at this
    exact this)
  have HGG := Lib.hid (fun u (h : Below W.heap.size W u) => show Calls Tryz.prog 65 #[.slice x.A x.l.length x.c, .int .i64 aj, .string ⟨#[62, 62]⟩] u fun e w' => e = .returned (.bool false) ∧ u = w' from by
    have := rsym_any x (aj) ⟨#[62, 62]⟩ u (HE.out.toks.below h (Nat.le_refl _))
    rw [show isSym x.l (⟨#[62, 62]⟩ : ByteArray).data.toList (aj) = false by assumption] at this
    exact this)
  have H91 := Lib.hid (fun u (h : Below W.heap.size W u) => show Calls Tryz.prog 65 #[.slice x.A x.l.length x.c, .int .i64 aj, .string ⟨#[91]⟩] u fun e w' => e = .returned (.bool false) ∧ u = w' from by
    have := rsym_any x (aj) ⟨#[91]⟩ u (HE.out.toks.below h (Nat.le_refl _))
    rw [show isSym x.l (⟨#[91]⟩ : ByteArray).data.toList (aj) = false by assumption] at this
    exact this)
  have HBI := Lib.hid (fun u (h : Below W.heap.size W u) => show Calls Tryz.prog 70 #[.slice x.A x.l.length x.c, .int .i64 aj] u fun e w' => e = .returned (.int .i64 (rOper x.l aj)) ∧ u = w' from rbin_any x aj u (HE.out.toks.below h (Nat.le_refl _)))
  generalize rOper x.l aj = o at *
  have hop' : decide (0 < o) = false := decide_eq_false hop
  have hal : aj < x.l.length := sym_lt h63
  have H63 := Lib.hid (fun u (h : Below W.heap.size W u) => show Calls Tryz.prog 65 #[.slice x.A x.l.length x.c, .int .i64 aj, .string ⟨#[63]⟩] u fun e w' => e = .returned (.bool true) ∧ u = w' from by
    have := rsym_any x (aj) ⟨#[63]⟩ u (HE.out.toks.below h (Nat.le_refl _))
    rw [show isSym x.l (⟨#[63]⟩ : ByteArray).data.toList (aj) = true by assumption] at this
    exact this)
  have HOB := Lib.hid (fun u (h : Below W.heap.size W u) => show Calls Tryz.prog 66 #[.slice x.A x.l.length x.c, .int .i64 ((aj : Int) + 1), .agg (scopeCells p ps)] u (RG u (opd (aj + 1))) from hO u (aj + 1) (by omega) (by omega) (HE.out.below h))
  have hbb := hB (aj + 1) (by omega)
  have hb1 := hbb.n
  have hb2 := hbb.ok
  have hb3 := hbb.top
  clear hbb
  generalize opd (aj + 1) = b at *
  obtain ⟨bn, bj, be⟩ := b
  simp only at hb1 hb2 hb3 hy ⊢
  have hy1 : (be == 0) = false := beq_eq_false_iff_ne.2 hy
  have hy2 : (be != 0) = true := bne_iff_ne.2 hy
  have hp1 := hps W HB
  clear E hO hB
  go_enter Tryz.func30, Tryz.ntmps30
  go_upto_region 1 with fail
  rw [← hW]
  clear hW
  go_wp2_with fail
  refine (H126.out W HB).mono ?_
  rintro r w' ⟨rfl, rfl⟩
  go_wp2_with fail
  refine (HA.out W HB).mono ?_
  rintro r w1 ⟨⟨A, c, rfl, hl, hn, hf⟩, hb1⟩
  have HB1 := Lib.hid hb1
  have HL1 := Lib.hid hl
  have HN := Lib.hid hn
  have HF := Lib.hid hf
  clear hb1 hl hn hf HA hp1
  go_upto_region 5 with fail
  obtain ⟨V, hV⟩ : ∃ V, V = w1.alloc (.cells #[.slice A an.length c, .int .i64 aj, .int .i64 0] 88) := ⟨_, rfl⟩
  have HVB : Hid (Blk V w1.heap.size 88 #[.slice A an.length c, .int .i64 aj, .int .i64 0]) := Lib.hid (by rw [hV]; exact Blk.new _ _ _)
  have HBV : Hid (Below W.heap.size W V) := Lib.hid (by rw [hV]; exact below_alloc HB1.out _)
  have HLV : Hid (LOk V 3 NodeD.cells ⟨an, A, c⟩) := Lib.hid (by rw [hV]; exact HL1.out.below (below1 _ _) (Nat.le_refl _))
  have HFW : Hid (∀ a, A = some a → w.heap.size ≤ a.block ∧ a.block ≠ w.heap.size + 1) := Lib.hid (fun a h => by have := HF.out a h; have := HSZ.out; omega)
  have hne : w.heap.size + 2 ≤ w1.heap.size := by have := HB1.out.size; have := HSZ.out; omega
  rw [← hV]
  clear hV
  have v0 : V.cell? ⟨w1.heap.size, 0, none⟩ = some (.slice A an.length c) := HVB.out.cell 0
  have v1 : V.cell? ⟨w1.heap.size, 1, none⟩ = some (.int .i64 aj) := HVB.out.cell 1
  have v2 : V.cell? ⟨w1.heap.size, 2, none⟩ = some (.int .i64 0) := HVB.out.cell 2
  go_wp2_with fail
  refine (HGG.out V HBV.out).mono ?_
  rintro r w' ⟨rfl, rfl⟩
  go_wp2_with fail
  refine (HLT.out V HBV.out).mono ?_
  rintro r w' ⟨rfl, rfl⟩
  go_wp2_with fail
  refine (HGG.out V HBV.out).mono ?_
  rintro r w' ⟨rfl, rfl⟩
  go_wp2_with fail
  refine (H91.out V HBV.out).mono ?_
  rintro r w' ⟨rfl, rfl⟩
  go_wp2_with fail
  refine (HBI.out V HBV.out).mono ?_
  rintro r w' ⟨rfl, rfl⟩
  go_wp2_with fail
  refine (H63.out V HBV.out).mono ?_
  rintro r w' ⟨rfl, rfl⟩
  have hp2 := hps V HBV.out
  go_wp2_with fail
  refine (HOB.out V HBV.out).mono ?_
  rintro r w2 ⟨⟨B, d, rfl, hl, hn, hf⟩, hb⟩
  have HB2 := Lib.hid hb
  have HL2 := Lib.hid hl
  have HN2 := Lib.hid hn
  have HF2 : Hid (∀ a, B = some a → w.heap.size ≤ a.block ∧ a.block ≠ w.heap.size + 1) := Lib.hid (fun a h => by have := hf a h; have := HBV.out.size; have := HSZ.out; omega)
  clear hb hl hn hf hp2
  go_upto_region 24 with fail
  obtain ⟨Y, hY⟩ : ∃ Y, Y = w2.alloc (.cells #[.slice B bn.length d, .int .i64 bj, .int .i64 be] 88) := ⟨_, rfl⟩
  have HYB : Hid (Blk Y w2.heap.size 88 #[.slice B bn.length d, .int .i64 bj, .int .i64 be]) := Lib.hid (by rw [hY]; exact Blk.new _ _ _)
  have HBY : Hid (Below V.heap.size V Y) := Lib.hid (by rw [hY]; exact below_alloc HB2.out _)
  have HLY : Hid (LOk Y 3 NodeD.cells ⟨bn, B, d⟩) := Lib.hid (by rw [hY]; exact HL2.out.below (below1 _ _) (Nat.le_refl _))
  have HWY : Hid (Below W.heap.size W Y) := Lib.hid (below_step HBV.out HBY.out)
  have hne2 : V.heap.size ≤ w2.heap.size := HB2.out.size
  have hne2b : w.heap.size + 2 ≤ w2.heap.size := by have := HB2.out.size; have := HBV.out.size; have := HSZ.out; omega
  rw [← hY]
  clear hY v0 v1 v2
  have y0 : Y.cell? ⟨w2.heap.size, 0, none⟩ = some (.slice B bn.length d) := HYB.out.cell 0
  have y1 : Y.cell? ⟨w2.heap.size, 1, none⟩ = some (.int .i64 bj) := HYB.out.cell 1
  have y2 : Y.cell? ⟨w2.heap.size, 2, none⟩ = some (.int .i64 be) := HYB.out.cell 2
  have fy2 : Y.frozen? ⟨w2.heap.size, 2, none⟩ = false := HYB.out.frozen 2
  have HRU := Lib.hid (HRB.out Y HWY.out)
  have r0 : Y.cell? ⟨w.heap.size + 1, 0, none⟩ = some (.slice none 0 0) := HRU.out.cell 0
  have r1 : Y.cell? ⟨w.heap.size + 1, 1, none⟩ = some (.int .i64 0) := HRU.out.cell 1
  have r2 : Y.cell? ⟨w.heap.size + 1, 2, none⟩ = some (.int .i64 0) := HRU.out.cell 2
  have g0 : Y.frozen? ⟨w.heap.size + 1, 0, none⟩ = false := HRU.out.frozen 0
  have g1 : Y.frozen? ⟨w.heap.size + 1, 1, none⟩ = false := HRU.out.frozen 1
  have g2 : Y.frozen? ⟨w.heap.size + 1, 2, none⟩ = false := HRU.out.frozen 2
  go_wp2
  refine bodyPost_ret (v := .agg #[.slice B bn.length d, .int .i64 bj, .int .i64 be]) ?_ rfl ?_
  · exact results_cell_row (fn := Tryz.f30) (p := 6) (ty := 88) rfl _ _ (w.heap.size + 1) 88 #[.slice B bn.length d, .int .i64 bj, .int .i64 be] (0, 0) _ rfl (rput3 HRU.out _ _ _) Tryz.underlying88 rfl (by kernel_rfl)
  · exact (RG.fin (R := ⟨bn, bj, be⟩) (A := B) (c := d) (Nat.le_succ _) (below_step HW.out HWY.out) HLY.out HN2.out HF2.out _ _ _ rfl)
set_option maxRecDepth 100000 in
set_option maxHeartbeats 8000000 in
theorem rexIfC {x : L Tk} {p : ProgD} {ps : L FieldD} {i : Nat} {w : World} {opd : Nat → Pd} {R : Pd} (E : REnv w x p ps) (hO : ROpdOk x p ps opd i) (hB : ∀ j, j ≤ x.l.length → RBd x.l j (opd j)) (hi : i ≤ x.l.length) (h126 : isSym x.l [126] i = false) (hz : (opd i).e = 0) (hlt : isSym x.l [60, 60] (opd i).at_ = false) (hgg : isSym x.l [62, 62] (opd i).at_ = false) (h91 : isSym x.l [91] (opd i).at_ = false) (hop : ¬ 0 < rOper x.l (opd i).at_) (h63 : isSym x.l [63] (opd i).at_ = true) (hy : (opd ((opd i).at_ + 1)).e = 0) (hc : expR x.l (opd ((opd i).at_ + 1)).at_ 3 [58] ≠ 0) (hR : R = ⟨(opd ((opd i).at_ + 1)).n, (opd ((opd i).at_ + 1)).at_, expR x.l (opd ((opd i).at_ + 1)).at_ 3 [58]⟩) :
    Calls Tryz.prog 30 #[.slice x.A x.l.length x.c, .int .i64 i, .agg (scopeCells p ps)] w (RG w R) := by
  subst hR
  obtain ⟨W, hW, hw, hsz, hb1, hb2⟩ := boxR w (scopeCells p ps) 44 #[.slice none 0 0, .int .i64 0, .int .i64 0] 88
  have HW := Lib.hid hw
  have HE := Lib.hid (E.below hw)
  have HRB := Lib.hid (fun u (h : Below W.heap.size W u) => hb2.below h hb2.lt)
  have hps := fun u (h : Below W.heap.size W u) => (show ∀ i, i < (scopeCells p ps).size → u.cell? ⟨w.heap.size, i, none⟩ = (scopeCells p ps)[i]? from fun i _ => (hb1.below h hb1.lt).cell i)
  have HSZ : Hid (W.heap.size = w.heap.size + 2) := Lib.hid hsz
  have HB := Below.refl W.heap.size W
  have hm := E.few
  clear hw hsz hb1 hb2
  have H126 := Lib.hid (fun u (h : Below W.heap.size W u) => show Calls Tryz.prog 65 #[.slice x.A x.l.length x.c, .int .i64 i, .string ⟨#[126]⟩] u fun e w' => e = .returned (.bool false) ∧ u = w' from by
    have := rsym_any x (i) ⟨#[126]⟩ u (HE.out.toks.below h (Nat.le_refl _))
    rw [show isSym x.l (⟨#[126]⟩ : ByteArray).data.toList (i) = false by assumption] at this
    exact this)
  have HA := Lib.hid (fun u (h : Below W.heap.size W u) => show Calls Tryz.prog 66 #[.slice x.A x.l.length x.c, .int .i64 i, .agg (scopeCells p ps)] u (RG u (opd i)) from hO u (i) (by omega) (by omega) (HE.out.below h))
  have hba := hB i hi
  have ha1 := hba.n
  have ha2 := hba.ok
  have ha3 := hba.top
  clear hba
  generalize opd i = a at *
  obtain ⟨an, aj, ae⟩ := a
  simp only at hz hlt hgg h91 hop h63 hy hc ⊢
  subst hz
  obtain ⟨ha4, ha5⟩ := ha2 rfl
  clear ha2
  simp only at ha4 ha5
  have HLT := Lib.hid (fun u (h : Below W.heap.size W u) => show Calls Tryz.prog 65 #[.slice x.A x.l.length x.c, .int .i64 aj, .string ⟨#[60, 60]⟩] u fun e w' => e = .returned (.bool false) ∧ u = w' from by
    have := rsym_any x (aj) ⟨#[60, 60]⟩ u (HE.out.toks.below h (Nat.le_refl _))
    rw [show isSym x.l (⟨#[60, 60]⟩ : ByteArray).data.toList (aj) = false by assumption] at this
    exact this)
  have HGG := Lib.hid (fun u (h : Below W.heap.size W u) => show Calls Tryz.prog 65 #[.slice x.A x.l.length x.c, .int .i64 aj, .string ⟨#[62, 62]⟩] u fun e w' => e = .returned (.bool false) ∧ u = w' from by
    have := rsym_any x (aj) ⟨#[62, 62]⟩ u (HE.out.toks.below h (Nat.le_refl _))
    rw [show isSym x.l (⟨#[62, 62]⟩ : ByteArray).data.toList (aj) = false by assumption] at this
    exact this)
  have H91 := Lib.hid (fun u (h : Below W.heap.size W u) => show Calls Tryz.prog 65 #[.slice x.A x.l.length x.c, .int .i64 aj, .string ⟨#[91]⟩] u fun e w' => e = .returned (.bool false) ∧ u = w' from by
    have := rsym_any x (aj) ⟨#[91]⟩ u (HE.out.toks.below h (Nat.le_refl _))
    rw [show isSym x.l (⟨#[91]⟩ : ByteArray).data.toList (aj) = false by assumption] at this
    exact this)
  have HBI := Lib.hid (fun u (h : Below W.heap.size W u) => show Calls Tryz.prog 70 #[.slice x.A x.l.length x.c, .int .i64 aj] u fun e w' => e = .returned (.int .i64 (rOper x.l aj)) ∧ u = w' from rbin_any x aj u (HE.out.toks.below h (Nat.le_refl _)))
  generalize rOper x.l aj = o at *
  have hop' : decide (0 < o) = false := decide_eq_false hop
  have hal : aj < x.l.length := sym_lt h63
  have H63 := Lib.hid (fun u (h : Below W.heap.size W u) => show Calls Tryz.prog 65 #[.slice x.A x.l.length x.c, .int .i64 aj, .string ⟨#[63]⟩] u fun e w' => e = .returned (.bool true) ∧ u = w' from by
    have := rsym_any x (aj) ⟨#[63]⟩ u (HE.out.toks.below h (Nat.le_refl _))
    rw [show isSym x.l (⟨#[63]⟩ : ByteArray).data.toList (aj) = true by assumption] at this
    exact this)
  have HOB := Lib.hid (fun u (h : Below W.heap.size W u) => show Calls Tryz.prog 66 #[.slice x.A x.l.length x.c, .int .i64 ((aj : Int) + 1), .agg (scopeCells p ps)] u (RG u (opd (aj + 1))) from hO u (aj + 1) (by omega) (by omega) (HE.out.below h))
  have hbb := hB (aj + 1) (by omega)
  have hb1 := hbb.n
  have hb2 := hbb.ok
  have hb3 := hbb.top
  clear hbb
  generalize opd (aj + 1) = b at *
  obtain ⟨bn, bj, be⟩ := b
  simp only at hb1 hb2 hb3 hy hc ⊢
  subst hy
  obtain ⟨hb4, hb5⟩ := hb2 rfl
  have HEX := Lib.hid (fun u (h : Below W.heap.size W u) => show Calls Tryz.prog 68 #[.slice x.A x.l.length x.c, .int .i64 bj, .int .i64 3, .string ⟨#[58]⟩] u fun e w' => e = .returned (.int .i64 (expR x.l bj 3 [58])) ∧ u = w' from rexp_any x bj 3 ⟨#[58]⟩ u (HE.out.toks.below h (Nat.le_refl _)))
  generalize expR x.l bj 3 [58] = ce at *
  have hc2 : (ce != 0) = true := bne_iff_ne.2 hc
  have hp1 := hps W HB
  clear E hO hB
  go_enter Tryz.func30, Tryz.ntmps30
  go_upto_region 1 with fail
  rw [← hW]
  clear hW
  go_wp2_with fail
  refine (H126.out W HB).mono ?_
  rintro r w' ⟨rfl, rfl⟩
  go_wp2_with fail
  refine (HA.out W HB).mono ?_
  rintro r w1 ⟨⟨A, c, rfl, hl, hn, hf⟩, hb1⟩
  have HB1 := Lib.hid hb1
  have HL1 := Lib.hid hl
  have HN := Lib.hid hn
  have HF := Lib.hid hf
  clear hb1 hl hn hf HA hp1
  go_upto_region 5 with fail
  obtain ⟨V, hV⟩ : ∃ V, V = w1.alloc (.cells #[.slice A an.length c, .int .i64 aj, .int .i64 0] 88) := ⟨_, rfl⟩
  have HVB : Hid (Blk V w1.heap.size 88 #[.slice A an.length c, .int .i64 aj, .int .i64 0]) := Lib.hid (by rw [hV]; exact Blk.new _ _ _)
  have HBV : Hid (Below W.heap.size W V) := Lib.hid (by rw [hV]; exact below_alloc HB1.out _)
  have HLV : Hid (LOk V 3 NodeD.cells ⟨an, A, c⟩) := Lib.hid (by rw [hV]; exact HL1.out.below (below1 _ _) (Nat.le_refl _))
  have HFW : Hid (∀ a, A = some a → w.heap.size ≤ a.block ∧ a.block ≠ w.heap.size + 1) := Lib.hid (fun a h => by have := HF.out a h; have := HSZ.out; omega)
  have hne : w.heap.size + 2 ≤ w1.heap.size := by have := HB1.out.size; have := HSZ.out; omega
  rw [← hV]
  clear hV
  have v0 : V.cell? ⟨w1.heap.size, 0, none⟩ = some (.slice A an.length c) := HVB.out.cell 0
  have v1 : V.cell? ⟨w1.heap.size, 1, none⟩ = some (.int .i64 aj) := HVB.out.cell 1
  have v2 : V.cell? ⟨w1.heap.size, 2, none⟩ = some (.int .i64 0) := HVB.out.cell 2
  go_wp2_with fail
  refine (HGG.out V HBV.out).mono ?_
  rintro r w' ⟨rfl, rfl⟩
  go_wp2_with fail
  refine (HLT.out V HBV.out).mono ?_
  rintro r w' ⟨rfl, rfl⟩
  go_wp2_with fail
  refine (HGG.out V HBV.out).mono ?_
  rintro r w' ⟨rfl, rfl⟩
  go_wp2_with fail
  refine (H91.out V HBV.out).mono ?_
  rintro r w' ⟨rfl, rfl⟩
  go_wp2_with fail
  refine (HBI.out V HBV.out).mono ?_
  rintro r w' ⟨rfl, rfl⟩
  go_wp2_with fail
  refine (H63.out V HBV.out).mono ?_
  rintro r w' ⟨rfl, rfl⟩
  have hp2 := hps V HBV.out
  go_wp2_with fail
  refine (HOB.out V HBV.out).mono ?_
  rintro r w2 ⟨⟨B, d, rfl, hl, hn, hf⟩, hb⟩
  have HB2 := Lib.hid hb
  have HL2 := Lib.hid hl
  have HN2 := Lib.hid hn
  have HF2 : Hid (∀ a, B = some a → w.heap.size ≤ a.block ∧ a.block ≠ w.heap.size + 1) := Lib.hid (fun a h => by have := hf a h; have := HBV.out.size; have := HSZ.out; omega)
  clear hb hl hn hf hp2
  go_upto_region 24 with fail
  obtain ⟨Y, hY⟩ : ∃ Y, Y = w2.alloc (.cells #[.slice B bn.length d, .int .i64 bj, .int .i64 0] 88) := ⟨_, rfl⟩
  have HYB : Hid (Blk Y w2.heap.size 88 #[.slice B bn.length d, .int .i64 bj, .int .i64 0]) := Lib.hid (by rw [hY]; exact Blk.new _ _ _)
  have HBY : Hid (Below V.heap.size V Y) := Lib.hid (by rw [hY]; exact below_alloc HB2.out _)
  have HLY : Hid (LOk Y 3 NodeD.cells ⟨bn, B, d⟩) := Lib.hid (by rw [hY]; exact HL2.out.below (below1 _ _) (Nat.le_refl _))
  have HWY : Hid (Below W.heap.size W Y) := Lib.hid (below_step HBV.out HBY.out)
  have hne2 : V.heap.size ≤ w2.heap.size := HB2.out.size
  have hne2b : w.heap.size + 2 ≤ w2.heap.size := by have := HB2.out.size; have := HBV.out.size; have := HSZ.out; omega
  have HY2 : Hid (Below w2.heap.size w2 Y) := Lib.hid (by rw [hY]; exact below1 _ _)
  rw [← hY]
  clear hY v0 v1 v2
  have y0 : Y.cell? ⟨w2.heap.size, 0, none⟩ = some (.slice B bn.length d) := HYB.out.cell 0
  have y1 : Y.cell? ⟨w2.heap.size, 1, none⟩ = some (.int .i64 bj) := HYB.out.cell 1
  have y2 : Y.cell? ⟨w2.heap.size, 2, none⟩ = some (.int .i64 0) := HYB.out.cell 2
  have fy2 : Y.frozen? ⟨w2.heap.size, 2, none⟩ = false := HYB.out.frozen 2
  go_wp2_with fail
  refine (HEX.out Y HWY.out).mono ?_
  rintro r w' ⟨rfl, rfl⟩
  go_upto_region 26 with fail
  obtain ⟨U, hU⟩ : ∃ U, U = Y.setCell ⟨w2.heap.size, 2, none⟩ (.int .i64 ce) := ⟨_, rfl⟩
  have HUB : Hid (Blk U w2.heap.size 88 #[.slice B bn.length d, .int .i64 bj, .int .i64 ce]) := Lib.hid (by rw [hU]; exact HYB.out.set_ 2 (.int .i64 ce))
  have HVU : Hid (Below V.heap.size V U) := Lib.hid (by rw [hU]; exact HBY.out.setCell hne2 _)
  have HWU : Hid (Below W.heap.size W U) := Lib.hid (below_step HBV.out HVU.out)
  have HLU : Hid (LOk U 3 NodeD.cells ⟨bn, B, d⟩) := Lib.hid (HL2.out.below (show Below w2.heap.size w2 U from by rw [hU]; exact (HY2.out).setCell (Nat.le_refl _) _) (Nat.le_refl _))
  rw [← hU]
  clear hU y0 y1 y2 fy2
  have y0 : U.cell? ⟨w2.heap.size, 0, none⟩ = some (.slice B bn.length d) := HUB.out.cell 0
  have y1 : U.cell? ⟨w2.heap.size, 1, none⟩ = some (.int .i64 bj) := HUB.out.cell 1
  have y2 : U.cell? ⟨w2.heap.size, 2, none⟩ = some (.int .i64 ce) := HUB.out.cell 2
  have HRU := Lib.hid (HRB.out U HWU.out)
  have r0 : U.cell? ⟨w.heap.size + 1, 0, none⟩ = some (.slice none 0 0) := HRU.out.cell 0
  have r1 : U.cell? ⟨w.heap.size + 1, 1, none⟩ = some (.int .i64 0) := HRU.out.cell 1
  have r2 : U.cell? ⟨w.heap.size + 1, 2, none⟩ = some (.int .i64 0) := HRU.out.cell 2
  have g0 : U.frozen? ⟨w.heap.size + 1, 0, none⟩ = false := HRU.out.frozen 0
  have g1 : U.frozen? ⟨w.heap.size + 1, 1, none⟩ = false := HRU.out.frozen 1
  have g2 : U.frozen? ⟨w.heap.size + 1, 2, none⟩ = false := HRU.out.frozen 2
  go_wp2
  refine bodyPost_ret (v := .agg #[.slice B bn.length d, .int .i64 bj, .int .i64 ce]) ?_ rfl ?_
  · exact results_cell_row (fn := Tryz.f30) (p := 6) (ty := 88) rfl _ _ (w.heap.size + 1) 88 #[.slice B bn.length d, .int .i64 bj, .int .i64 ce] (0, 0) _ rfl (rput3 HRU.out _ _ _) Tryz.underlying88 rfl (by kernel_rfl)
  · exact (RG.fin (R := ⟨bn, bj, ce⟩) (A := B) (c := d) (Nat.le_succ _) (below_step HW.out HWU.out) HLU.out HN2.out HF2.out _ _ _ rfl)
set_option maxRecDepth 100000 in
set_option maxHeartbeats 8000000 in
theorem rexIfZ {x : L Tk} {p : ProgD} {ps : L FieldD} {i : Nat} {w : World} {opd : Nat → Pd} {R : Pd} (E : REnv w x p ps) (hO : ROpdOk x p ps opd i) (hB : ∀ j, j ≤ x.l.length → RBd x.l j (opd j)) (hi : i ≤ x.l.length) (h126 : isSym x.l [126] i = false) (hz : (opd i).e = 0) (hlt : isSym x.l [60, 60] (opd i).at_ = false) (hgg : isSym x.l [62, 62] (opd i).at_ = false) (h91 : isSym x.l [91] (opd i).at_ = false) (hop : ¬ 0 < rOper x.l (opd i).at_) (h63 : isSym x.l [63] (opd i).at_ = true) (hy : (opd ((opd i).at_ + 1)).e = 0) (hc : expR x.l (opd ((opd i).at_ + 1)).at_ 3 [58] = 0) (hze : (opd ((opd ((opd i).at_ + 1)).at_ + 1)).e ≠ 0) (hR : R = (opd ((opd ((opd i).at_ + 1)).at_ + 1))) :
    Calls Tryz.prog 30 #[.slice x.A x.l.length x.c, .int .i64 i, .agg (scopeCells p ps)] w (RG w R) := by
  subst hR
  obtain ⟨W, hW, hw, hsz, hb1, hb2⟩ := boxR w (scopeCells p ps) 44 #[.slice none 0 0, .int .i64 0, .int .i64 0] 88
  have HW := Lib.hid hw
  have HE := Lib.hid (E.below hw)
  have HRB := Lib.hid (fun u (h : Below W.heap.size W u) => hb2.below h hb2.lt)
  have hps := fun u (h : Below W.heap.size W u) => (show ∀ i, i < (scopeCells p ps).size → u.cell? ⟨w.heap.size, i, none⟩ = (scopeCells p ps)[i]? from fun i _ => (hb1.below h hb1.lt).cell i)
  have HSZ : Hid (W.heap.size = w.heap.size + 2) := Lib.hid hsz
  have HB := Below.refl W.heap.size W
  have hm := E.few
  clear hw hsz hb1 hb2
  have H126 := Lib.hid (fun u (h : Below W.heap.size W u) => show Calls Tryz.prog 65 #[.slice x.A x.l.length x.c, .int .i64 i, .string ⟨#[126]⟩] u fun e w' => e = .returned (.bool false) ∧ u = w' from by
    have := rsym_any x (i) ⟨#[126]⟩ u (HE.out.toks.below h (Nat.le_refl _))
    rw [show isSym x.l (⟨#[126]⟩ : ByteArray).data.toList (i) = false by assumption] at this
    exact this)
  have HA := Lib.hid (fun u (h : Below W.heap.size W u) => show Calls Tryz.prog 66 #[.slice x.A x.l.length x.c, .int .i64 i, .agg (scopeCells p ps)] u (RG u (opd i)) from hO u (i) (by omega) (by omega) (HE.out.below h))
  have hba := hB i hi
  have ha1 := hba.n
  have ha2 := hba.ok
  have ha3 := hba.top
  clear hba
  generalize opd i = a at *
  obtain ⟨an, aj, ae⟩ := a
  simp only at hz hlt hgg h91 hop h63 hy hc hze ⊢
  subst hz
  obtain ⟨ha4, ha5⟩ := ha2 rfl
  clear ha2
  simp only at ha4 ha5
  have HLT := Lib.hid (fun u (h : Below W.heap.size W u) => show Calls Tryz.prog 65 #[.slice x.A x.l.length x.c, .int .i64 aj, .string ⟨#[60, 60]⟩] u fun e w' => e = .returned (.bool false) ∧ u = w' from by
    have := rsym_any x (aj) ⟨#[60, 60]⟩ u (HE.out.toks.below h (Nat.le_refl _))
    rw [show isSym x.l (⟨#[60, 60]⟩ : ByteArray).data.toList (aj) = false by assumption] at this
    exact this)
  have HGG := Lib.hid (fun u (h : Below W.heap.size W u) => show Calls Tryz.prog 65 #[.slice x.A x.l.length x.c, .int .i64 aj, .string ⟨#[62, 62]⟩] u fun e w' => e = .returned (.bool false) ∧ u = w' from by
    have := rsym_any x (aj) ⟨#[62, 62]⟩ u (HE.out.toks.below h (Nat.le_refl _))
    rw [show isSym x.l (⟨#[62, 62]⟩ : ByteArray).data.toList (aj) = false by assumption] at this
    exact this)
  have H91 := Lib.hid (fun u (h : Below W.heap.size W u) => show Calls Tryz.prog 65 #[.slice x.A x.l.length x.c, .int .i64 aj, .string ⟨#[91]⟩] u fun e w' => e = .returned (.bool false) ∧ u = w' from by
    have := rsym_any x (aj) ⟨#[91]⟩ u (HE.out.toks.below h (Nat.le_refl _))
    rw [show isSym x.l (⟨#[91]⟩ : ByteArray).data.toList (aj) = false by assumption] at this
    exact this)
  have HBI := Lib.hid (fun u (h : Below W.heap.size W u) => show Calls Tryz.prog 70 #[.slice x.A x.l.length x.c, .int .i64 aj] u fun e w' => e = .returned (.int .i64 (rOper x.l aj)) ∧ u = w' from rbin_any x aj u (HE.out.toks.below h (Nat.le_refl _)))
  generalize rOper x.l aj = o at *
  have hop' : decide (0 < o) = false := decide_eq_false hop
  have hal : aj < x.l.length := sym_lt h63
  have H63 := Lib.hid (fun u (h : Below W.heap.size W u) => show Calls Tryz.prog 65 #[.slice x.A x.l.length x.c, .int .i64 aj, .string ⟨#[63]⟩] u fun e w' => e = .returned (.bool true) ∧ u = w' from by
    have := rsym_any x (aj) ⟨#[63]⟩ u (HE.out.toks.below h (Nat.le_refl _))
    rw [show isSym x.l (⟨#[63]⟩ : ByteArray).data.toList (aj) = true by assumption] at this
    exact this)
  have HOB := Lib.hid (fun u (h : Below W.heap.size W u) => show Calls Tryz.prog 66 #[.slice x.A x.l.length x.c, .int .i64 ((aj : Int) + 1), .agg (scopeCells p ps)] u (RG u (opd (aj + 1))) from hO u (aj + 1) (by omega) (by omega) (HE.out.below h))
  have hbb := hB (aj + 1) (by omega)
  have hb1 := hbb.n
  have hb2 := hbb.ok
  have hb3 := hbb.top
  clear hbb
  generalize opd (aj + 1) = b at *
  obtain ⟨bn, bj, be⟩ := b
  simp only at hb1 hb2 hb3 hy hc hze ⊢
  subst hy
  obtain ⟨hb4, hb5⟩ := hb2 rfl
  have HEX := Lib.hid (fun u (h : Below W.heap.size W u) => show Calls Tryz.prog 68 #[.slice x.A x.l.length x.c, .int .i64 bj, .int .i64 3, .string ⟨#[58]⟩] u fun e w' => e = .returned (.int .i64 (expR x.l bj 3 [58])) ∧ u = w' from rexp_any x bj 3 ⟨#[58]⟩ u (HE.out.toks.below h (Nat.le_refl _)))
  rw [hc] at HEX
  have hcl : bj < x.l.length := exp_lt hc
  have HOZ := Lib.hid (fun u (h : Below W.heap.size W u) => show Calls Tryz.prog 66 #[.slice x.A x.l.length x.c, .int .i64 ((bj : Int) + 1), .agg (scopeCells p ps)] u (RG u (opd (bj + 1))) from hO u (bj + 1) (by omega) (by omega) (HE.out.below h))
  have hzz := hB (bj + 1) (by omega)
  have hz1 := hzz.n
  clear hzz
  generalize opd (bj + 1) = z at *
  obtain ⟨zn, zj, ze⟩ := z
  simp only at hz1 hze ⊢
  have hz2' : (ze != 0) = true := bne_iff_ne.2 hze
  have hp1 := hps W HB
  clear E hO hB
  go_enter Tryz.func30, Tryz.ntmps30
  go_upto_region 1 with fail
  rw [← hW]
  clear hW
  go_wp2_with fail
  refine (H126.out W HB).mono ?_
  rintro r w' ⟨rfl, rfl⟩
  go_wp2_with fail
  refine (HA.out W HB).mono ?_
  rintro r w1 ⟨⟨A, c, rfl, hl, hn, hf⟩, hb1⟩
  have HB1 := Lib.hid hb1
  have HL1 := Lib.hid hl
  have HN := Lib.hid hn
  have HF := Lib.hid hf
  clear hb1 hl hn hf HA hp1
  go_upto_region 5 with fail
  obtain ⟨V, hV⟩ : ∃ V, V = w1.alloc (.cells #[.slice A an.length c, .int .i64 aj, .int .i64 0] 88) := ⟨_, rfl⟩
  have HVB : Hid (Blk V w1.heap.size 88 #[.slice A an.length c, .int .i64 aj, .int .i64 0]) := Lib.hid (by rw [hV]; exact Blk.new _ _ _)
  have HBV : Hid (Below W.heap.size W V) := Lib.hid (by rw [hV]; exact below_alloc HB1.out _)
  have HLV : Hid (LOk V 3 NodeD.cells ⟨an, A, c⟩) := Lib.hid (by rw [hV]; exact HL1.out.below (below1 _ _) (Nat.le_refl _))
  have HFW : Hid (∀ a, A = some a → w.heap.size ≤ a.block ∧ a.block ≠ w.heap.size + 1) := Lib.hid (fun a h => by have := HF.out a h; have := HSZ.out; omega)
  have hne : w.heap.size + 2 ≤ w1.heap.size := by have := HB1.out.size; have := HSZ.out; omega
  rw [← hV]
  clear hV
  have v0 : V.cell? ⟨w1.heap.size, 0, none⟩ = some (.slice A an.length c) := HVB.out.cell 0
  have v1 : V.cell? ⟨w1.heap.size, 1, none⟩ = some (.int .i64 aj) := HVB.out.cell 1
  have v2 : V.cell? ⟨w1.heap.size, 2, none⟩ = some (.int .i64 0) := HVB.out.cell 2
  go_wp2_with fail
  refine (HGG.out V HBV.out).mono ?_
  rintro r w' ⟨rfl, rfl⟩
  go_wp2_with fail
  refine (HLT.out V HBV.out).mono ?_
  rintro r w' ⟨rfl, rfl⟩
  go_wp2_with fail
  refine (HGG.out V HBV.out).mono ?_
  rintro r w' ⟨rfl, rfl⟩
  go_wp2_with fail
  refine (H91.out V HBV.out).mono ?_
  rintro r w' ⟨rfl, rfl⟩
  go_wp2_with fail
  refine (HBI.out V HBV.out).mono ?_
  rintro r w' ⟨rfl, rfl⟩
  go_wp2_with fail
  refine (H63.out V HBV.out).mono ?_
  rintro r w' ⟨rfl, rfl⟩
  have hp2 := hps V HBV.out
  go_wp2_with fail
  refine (HOB.out V HBV.out).mono ?_
  rintro r w2 ⟨⟨B, d, rfl, hl, hn, hf⟩, hb⟩
  have HB2 := Lib.hid hb
  have HL2 := Lib.hid hl
  have HN2 := Lib.hid hn
  have HF2 : Hid (∀ a, B = some a → w.heap.size ≤ a.block ∧ a.block ≠ w.heap.size + 1) := Lib.hid (fun a h => by have := hf a h; have := HBV.out.size; have := HSZ.out; omega)
  clear hb hl hn hf hp2
  go_upto_region 24 with fail
  obtain ⟨Y, hY⟩ : ∃ Y, Y = w2.alloc (.cells #[.slice B bn.length d, .int .i64 bj, .int .i64 0] 88) := ⟨_, rfl⟩
  have HYB : Hid (Blk Y w2.heap.size 88 #[.slice B bn.length d, .int .i64 bj, .int .i64 0]) := Lib.hid (by rw [hY]; exact Blk.new _ _ _)
  have HBY : Hid (Below V.heap.size V Y) := Lib.hid (by rw [hY]; exact below_alloc HB2.out _)
  have HLY : Hid (LOk Y 3 NodeD.cells ⟨bn, B, d⟩) := Lib.hid (by rw [hY]; exact HL2.out.below (below1 _ _) (Nat.le_refl _))
  have HWY : Hid (Below W.heap.size W Y) := Lib.hid (below_step HBV.out HBY.out)
  have hne2 : V.heap.size ≤ w2.heap.size := HB2.out.size
  have hne2b : w.heap.size + 2 ≤ w2.heap.size := by have := HB2.out.size; have := HBV.out.size; have := HSZ.out; omega
  have HY2 : Hid (Below w2.heap.size w2 Y) := Lib.hid (by rw [hY]; exact below1 _ _)
  rw [← hY]
  clear hY v0 v1 v2
  have y0 : Y.cell? ⟨w2.heap.size, 0, none⟩ = some (.slice B bn.length d) := HYB.out.cell 0
  have y1 : Y.cell? ⟨w2.heap.size, 1, none⟩ = some (.int .i64 bj) := HYB.out.cell 1
  have y2 : Y.cell? ⟨w2.heap.size, 2, none⟩ = some (.int .i64 0) := HYB.out.cell 2
  have fy2 : Y.frozen? ⟨w2.heap.size, 2, none⟩ = false := HYB.out.frozen 2
  go_wp2_with fail
  refine (HEX.out Y HWY.out).mono ?_
  rintro r w' ⟨rfl, rfl⟩
  go_upto_region 26 with fail
  obtain ⟨U, hU⟩ : ∃ U, U = Y.setCell ⟨w2.heap.size, 2, none⟩ (.int .i64 0) := ⟨_, rfl⟩
  have HUB : Hid (Blk U w2.heap.size 88 #[.slice B bn.length d, .int .i64 bj, .int .i64 0]) := Lib.hid (by rw [hU]; exact HYB.out.set_ 2 (.int .i64 0))
  have HVU : Hid (Below V.heap.size V U) := Lib.hid (by rw [hU]; exact HBY.out.setCell hne2 _)
  have HWU : Hid (Below W.heap.size W U) := Lib.hid (below_step HBV.out HVU.out)
  have HLU : Hid (LOk U 3 NodeD.cells ⟨bn, B, d⟩) := Lib.hid (HL2.out.below (show Below w2.heap.size w2 U from by rw [hU]; exact (HY2.out).setCell (Nat.le_refl _) _) (Nat.le_refl _))
  rw [← hU]
  clear hU y0 y1 y2 fy2
  have y0 : U.cell? ⟨w2.heap.size, 0, none⟩ = some (.slice B bn.length d) := HUB.out.cell 0
  have y1 : U.cell? ⟨w2.heap.size, 1, none⟩ = some (.int .i64 bj) := HUB.out.cell 1
  have y2 : U.cell? ⟨w2.heap.size, 2, none⟩ = some (.int .i64 0) := HUB.out.cell 2
  have hp3 := hps U HWU.out
  go_wp2_with fail
  refine (HOZ.out U HWU.out).mono ?_
  rintro r w3 ⟨⟨Cz, cz, rfl, hl, hn, hf⟩, hb⟩
  have HB3 := Lib.hid hb
  have HL3 := Lib.hid hl
  have HN3 := Lib.hid hn
  have HF3 : Hid (∀ a, Cz = some a → w.heap.size ≤ a.block ∧ a.block ≠ w.heap.size + 1) := Lib.hid (fun a h => by have := hf a h; have := HWU.out.size; have := HSZ.out; omega)
  clear hb hl hn hf hp3
  go_upto_region 29 with fail
  obtain ⟨Z, hZ⟩ : ∃ Z, Z = w3.alloc (.cells #[.slice Cz zn.length cz, .int .i64 zj, .int .i64 ze] 88) := ⟨_, rfl⟩
  have HZB : Hid (Blk Z w3.heap.size 88 #[.slice Cz zn.length cz, .int .i64 zj, .int .i64 ze]) := Lib.hid (by rw [hZ]; exact Blk.new _ _ _)
  have HUZ : Hid (Below U.heap.size U Z) := Lib.hid (by rw [hZ]; exact below_alloc HB3.out _)
  have HLZ : Hid (LOk Z 3 NodeD.cells ⟨zn, Cz, cz⟩) := Lib.hid (by rw [hZ]; exact HL3.out.below (below1 _ _) (Nat.le_refl _))
  have HWZ : Hid (Below W.heap.size W Z) := Lib.hid (below_step HWU.out HUZ.out)
  have hne3b : w.heap.size + 2 ≤ w3.heap.size := by have := HB3.out.size; have := HWU.out.size; have := HSZ.out; omega
  rw [← hZ]
  clear hZ y0 y1 y2
  have z0 : Z.cell? ⟨w3.heap.size, 0, none⟩ = some (.slice Cz zn.length cz) := HZB.out.cell 0
  have z1 : Z.cell? ⟨w3.heap.size, 1, none⟩ = some (.int .i64 zj) := HZB.out.cell 1
  have z2 : Z.cell? ⟨w3.heap.size, 2, none⟩ = some (.int .i64 ze) := HZB.out.cell 2
  have HRU := Lib.hid (HRB.out Z HWZ.out)
  have r0 : Z.cell? ⟨w.heap.size + 1, 0, none⟩ = some (.slice none 0 0) := HRU.out.cell 0
  have r1 : Z.cell? ⟨w.heap.size + 1, 1, none⟩ = some (.int .i64 0) := HRU.out.cell 1
  have r2 : Z.cell? ⟨w.heap.size + 1, 2, none⟩ = some (.int .i64 0) := HRU.out.cell 2
  have g0 : Z.frozen? ⟨w.heap.size + 1, 0, none⟩ = false := HRU.out.frozen 0
  have g1 : Z.frozen? ⟨w.heap.size + 1, 1, none⟩ = false := HRU.out.frozen 1
  have g2 : Z.frozen? ⟨w.heap.size + 1, 2, none⟩ = false := HRU.out.frozen 2
  go_wp2
  refine bodyPost_ret (v := .agg #[.slice Cz zn.length cz, .int .i64 zj, .int .i64 ze]) ?_ rfl ?_
  · exact results_cell_row (fn := Tryz.f30) (p := 6) (ty := 88) rfl _ _ (w.heap.size + 1) 88 #[.slice Cz zn.length cz, .int .i64 zj, .int .i64 ze] (0, 0) _ rfl (rput3 HRU.out _ _ _) Tryz.underlying88 rfl (by kernel_rfl)
  · exact (RG.fin (R := ⟨zn, zj, ze⟩) (A := Cz) (c := cz) (Nat.le_succ _) (below_step HW.out HWZ.out) HLZ.out HN3.out HF3.out _ _ _ rfl)
set_option maxRecDepth 100000 in
set_option maxHeartbeats 8000000 in
theorem rexIfOk {x : L Tk} {p : ProgD} {ps : L FieldD} {i : Nat} {w : World} {opd : Nat → Pd} {R : Pd} (E : REnv w x p ps) (hO : ROpdOk x p ps opd i) (hB : ∀ j, j ≤ x.l.length → RBd x.l j (opd j)) (hi : i ≤ x.l.length) (h126 : isSym x.l [126] i = false) (hz : (opd i).e = 0) (hlt : isSym x.l [60, 60] (opd i).at_ = false) (hgg : isSym x.l [62, 62] (opd i).at_ = false) (h91 : isSym x.l [91] (opd i).at_ = false) (hop : ¬ 0 < rOper x.l (opd i).at_) (h63 : isSym x.l [63] (opd i).at_ = true) (hy : (opd ((opd i).at_ + 1)).e = 0) (hc : expR x.l (opd ((opd i).at_ + 1)).at_ 3 [58] = 0) (hze : (opd ((opd ((opd i).at_ + 1)).at_ + 1)).e = 0) (hR : R = rPre ⟨17, 0, 0⟩ (opd i) ⟨(opd ((opd i).at_ + 1)).n ++ (opd ((opd ((opd i).at_ + 1)).at_ + 1)).n, (opd ((opd ((opd i).at_ + 1)).at_ + 1)).at_, (opd ((opd ((opd i).at_ + 1)).at_ + 1)).e⟩) :
    Calls Tryz.prog 30 #[.slice x.A x.l.length x.c, .int .i64 i, .agg (scopeCells p ps)] w (RG w R) := by
  obtain ⟨W, hW, hw, hsz, hb1, hb2⟩ := boxR w (scopeCells p ps) 44 #[.slice none 0 0, .int .i64 0, .int .i64 0] 88
  have HW := Lib.hid hw
  have HE := Lib.hid (E.below hw)
  have HRB := Lib.hid (fun u (h : Below W.heap.size W u) => hb2.below h hb2.lt)
  have hps := fun u (h : Below W.heap.size W u) => (show ∀ i, i < (scopeCells p ps).size → u.cell? ⟨w.heap.size, i, none⟩ = (scopeCells p ps)[i]? from fun i _ => (hb1.below h hb1.lt).cell i)
  have HSZ : Hid (W.heap.size = w.heap.size + 2) := Lib.hid hsz
  have HB := Below.refl W.heap.size W
  have hm := E.few
  clear hw hsz hb1 hb2
  have H126 := Lib.hid (fun u (h : Below W.heap.size W u) => show Calls Tryz.prog 65 #[.slice x.A x.l.length x.c, .int .i64 i, .string ⟨#[126]⟩] u fun e w' => e = .returned (.bool false) ∧ u = w' from by
    have := rsym_any x (i) ⟨#[126]⟩ u (HE.out.toks.below h (Nat.le_refl _))
    rw [show isSym x.l (⟨#[126]⟩ : ByteArray).data.toList (i) = false by assumption] at this
    exact this)
  have HA := Lib.hid (fun u (h : Below W.heap.size W u) => show Calls Tryz.prog 66 #[.slice x.A x.l.length x.c, .int .i64 i, .agg (scopeCells p ps)] u (RG u (opd i)) from hO u (i) (by omega) (by omega) (HE.out.below h))
  have hba := hB i hi
  have ha1 := hba.n
  have ha2 := hba.ok
  have ha3 := hba.top
  clear hba
  generalize opd i = a at *
  obtain ⟨an, aj, ae⟩ := a
  simp only at hz hlt hgg h91 hop h63 hy hc hze hR ⊢
  subst hz
  obtain ⟨ha4, ha5⟩ := ha2 rfl
  clear ha2
  simp only at ha4 ha5
  have HLT := Lib.hid (fun u (h : Below W.heap.size W u) => show Calls Tryz.prog 65 #[.slice x.A x.l.length x.c, .int .i64 aj, .string ⟨#[60, 60]⟩] u fun e w' => e = .returned (.bool false) ∧ u = w' from by
    have := rsym_any x (aj) ⟨#[60, 60]⟩ u (HE.out.toks.below h (Nat.le_refl _))
    rw [show isSym x.l (⟨#[60, 60]⟩ : ByteArray).data.toList (aj) = false by assumption] at this
    exact this)
  have HGG := Lib.hid (fun u (h : Below W.heap.size W u) => show Calls Tryz.prog 65 #[.slice x.A x.l.length x.c, .int .i64 aj, .string ⟨#[62, 62]⟩] u fun e w' => e = .returned (.bool false) ∧ u = w' from by
    have := rsym_any x (aj) ⟨#[62, 62]⟩ u (HE.out.toks.below h (Nat.le_refl _))
    rw [show isSym x.l (⟨#[62, 62]⟩ : ByteArray).data.toList (aj) = false by assumption] at this
    exact this)
  have H91 := Lib.hid (fun u (h : Below W.heap.size W u) => show Calls Tryz.prog 65 #[.slice x.A x.l.length x.c, .int .i64 aj, .string ⟨#[91]⟩] u fun e w' => e = .returned (.bool false) ∧ u = w' from by
    have := rsym_any x (aj) ⟨#[91]⟩ u (HE.out.toks.below h (Nat.le_refl _))
    rw [show isSym x.l (⟨#[91]⟩ : ByteArray).data.toList (aj) = false by assumption] at this
    exact this)
  have HBI := Lib.hid (fun u (h : Below W.heap.size W u) => show Calls Tryz.prog 70 #[.slice x.A x.l.length x.c, .int .i64 aj] u fun e w' => e = .returned (.int .i64 (rOper x.l aj)) ∧ u = w' from rbin_any x aj u (HE.out.toks.below h (Nat.le_refl _)))
  generalize rOper x.l aj = o at *
  have hop' : decide (0 < o) = false := decide_eq_false hop
  have hal : aj < x.l.length := sym_lt h63
  have H63 := Lib.hid (fun u (h : Below W.heap.size W u) => show Calls Tryz.prog 65 #[.slice x.A x.l.length x.c, .int .i64 aj, .string ⟨#[63]⟩] u fun e w' => e = .returned (.bool true) ∧ u = w' from by
    have := rsym_any x (aj) ⟨#[63]⟩ u (HE.out.toks.below h (Nat.le_refl _))
    rw [show isSym x.l (⟨#[63]⟩ : ByteArray).data.toList (aj) = true by assumption] at this
    exact this)
  have HOB := Lib.hid (fun u (h : Below W.heap.size W u) => show Calls Tryz.prog 66 #[.slice x.A x.l.length x.c, .int .i64 ((aj : Int) + 1), .agg (scopeCells p ps)] u (RG u (opd (aj + 1))) from hO u (aj + 1) (by omega) (by omega) (HE.out.below h))
  have hbb := hB (aj + 1) (by omega)
  have hb1 := hbb.n
  have hb2 := hbb.ok
  have hb3 := hbb.top
  clear hbb
  generalize opd (aj + 1) = b at *
  obtain ⟨bn, bj, be⟩ := b
  simp only at hb1 hb2 hb3 hy hc hze hR ⊢
  subst hy
  obtain ⟨hb4, hb5⟩ := hb2 rfl
  have HEX := Lib.hid (fun u (h : Below W.heap.size W u) => show Calls Tryz.prog 68 #[.slice x.A x.l.length x.c, .int .i64 bj, .int .i64 3, .string ⟨#[58]⟩] u fun e w' => e = .returned (.int .i64 (expR x.l bj 3 [58])) ∧ u = w' from rexp_any x bj 3 ⟨#[58]⟩ u (HE.out.toks.below h (Nat.le_refl _)))
  rw [hc] at HEX
  have hcl : bj < x.l.length := exp_lt hc
  have HOZ := Lib.hid (fun u (h : Below W.heap.size W u) => show Calls Tryz.prog 66 #[.slice x.A x.l.length x.c, .int .i64 ((bj : Int) + 1), .agg (scopeCells p ps)] u (RG u (opd (bj + 1))) from hO u (bj + 1) (by omega) (by omega) (HE.out.below h))
  have hzz := hB (bj + 1) (by omega)
  have hz1 := hzz.n
  clear hzz
  generalize opd (bj + 1) = z at *
  obtain ⟨zn, zj, ze⟩ := z
  simp only at hz1 hze hR ⊢
  subst hze
  obtain ⟨rn, rj, re⟩ := R
  have hp1 := hps W HB
  clear E hO hB
  go_enter Tryz.func30, Tryz.ntmps30
  go_upto_region 1 with fail
  rw [← hW]
  clear hW
  go_wp2_with fail
  refine (H126.out W HB).mono ?_
  rintro r w' ⟨rfl, rfl⟩
  go_wp2_with fail
  refine (HA.out W HB).mono ?_
  rintro r w1 ⟨⟨A, c, rfl, hl, hn, hf⟩, hb1⟩
  have HB1 := Lib.hid hb1
  have HL1 := Lib.hid hl
  have HN := Lib.hid hn
  have HF := Lib.hid hf
  clear hb1 hl hn hf HA hp1
  go_upto_region 5 with fail
  obtain ⟨V, hV⟩ : ∃ V, V = w1.alloc (.cells #[.slice A an.length c, .int .i64 aj, .int .i64 0] 88) := ⟨_, rfl⟩
  have HVB : Hid (Blk V w1.heap.size 88 #[.slice A an.length c, .int .i64 aj, .int .i64 0]) := Lib.hid (by rw [hV]; exact Blk.new _ _ _)
  have HBV : Hid (Below W.heap.size W V) := Lib.hid (by rw [hV]; exact below_alloc HB1.out _)
  have HLV : Hid (LOk V 3 NodeD.cells ⟨an, A, c⟩) := Lib.hid (by rw [hV]; exact HL1.out.below (below1 _ _) (Nat.le_refl _))
  have HFW : Hid (∀ a, A = some a → w.heap.size ≤ a.block ∧ a.block ≠ w.heap.size + 1) := Lib.hid (fun a h => by have := HF.out a h; have := HSZ.out; omega)
  have hne : w.heap.size + 2 ≤ w1.heap.size := by have := HB1.out.size; have := HSZ.out; omega
  rw [← hV]
  clear hV
  have v0 : V.cell? ⟨w1.heap.size, 0, none⟩ = some (.slice A an.length c) := HVB.out.cell 0
  have v1 : V.cell? ⟨w1.heap.size, 1, none⟩ = some (.int .i64 aj) := HVB.out.cell 1
  have v2 : V.cell? ⟨w1.heap.size, 2, none⟩ = some (.int .i64 0) := HVB.out.cell 2
  go_wp2_with fail
  refine (HGG.out V HBV.out).mono ?_
  rintro r w' ⟨rfl, rfl⟩
  go_wp2_with fail
  refine (HLT.out V HBV.out).mono ?_
  rintro r w' ⟨rfl, rfl⟩
  go_wp2_with fail
  refine (HGG.out V HBV.out).mono ?_
  rintro r w' ⟨rfl, rfl⟩
  go_wp2_with fail
  refine (H91.out V HBV.out).mono ?_
  rintro r w' ⟨rfl, rfl⟩
  go_wp2_with fail
  refine (HBI.out V HBV.out).mono ?_
  rintro r w' ⟨rfl, rfl⟩
  go_wp2_with fail
  refine (H63.out V HBV.out).mono ?_
  rintro r w' ⟨rfl, rfl⟩
  have hp2 := hps V HBV.out
  go_wp2_with fail
  refine (HOB.out V HBV.out).mono ?_
  rintro r w2 ⟨⟨B, d, rfl, hl, hn, hf⟩, hb⟩
  have HB2 := Lib.hid hb
  have HL2 := Lib.hid hl
  have HN2 := Lib.hid hn
  have HF2 : Hid (∀ a, B = some a → w.heap.size ≤ a.block ∧ a.block ≠ w.heap.size + 1) := Lib.hid (fun a h => by have := hf a h; have := HBV.out.size; have := HSZ.out; omega)
  clear hb hl hn hf hp2
  go_upto_region 24 with fail
  obtain ⟨Y, hY⟩ : ∃ Y, Y = w2.alloc (.cells #[.slice B bn.length d, .int .i64 bj, .int .i64 0] 88) := ⟨_, rfl⟩
  have HYB : Hid (Blk Y w2.heap.size 88 #[.slice B bn.length d, .int .i64 bj, .int .i64 0]) := Lib.hid (by rw [hY]; exact Blk.new _ _ _)
  have HBY : Hid (Below V.heap.size V Y) := Lib.hid (by rw [hY]; exact below_alloc HB2.out _)
  have HLY : Hid (LOk Y 3 NodeD.cells ⟨bn, B, d⟩) := Lib.hid (by rw [hY]; exact HL2.out.below (below1 _ _) (Nat.le_refl _))
  have HWY : Hid (Below W.heap.size W Y) := Lib.hid (below_step HBV.out HBY.out)
  have hne2 : V.heap.size ≤ w2.heap.size := HB2.out.size
  have hne2b : w.heap.size + 2 ≤ w2.heap.size := by have := HB2.out.size; have := HBV.out.size; have := HSZ.out; omega
  have HY2 : Hid (Below w2.heap.size w2 Y) := Lib.hid (by rw [hY]; exact below1 _ _)
  rw [← hY]
  clear hY v0 v1 v2
  have y0 : Y.cell? ⟨w2.heap.size, 0, none⟩ = some (.slice B bn.length d) := HYB.out.cell 0
  have y1 : Y.cell? ⟨w2.heap.size, 1, none⟩ = some (.int .i64 bj) := HYB.out.cell 1
  have y2 : Y.cell? ⟨w2.heap.size, 2, none⟩ = some (.int .i64 0) := HYB.out.cell 2
  have fy2 : Y.frozen? ⟨w2.heap.size, 2, none⟩ = false := HYB.out.frozen 2
  go_wp2_with fail
  refine (HEX.out Y HWY.out).mono ?_
  rintro r w' ⟨rfl, rfl⟩
  go_upto_region 26 with fail
  obtain ⟨U, hU⟩ : ∃ U, U = Y.setCell ⟨w2.heap.size, 2, none⟩ (.int .i64 0) := ⟨_, rfl⟩
  have HUB : Hid (Blk U w2.heap.size 88 #[.slice B bn.length d, .int .i64 bj, .int .i64 0]) := Lib.hid (by rw [hU]; exact HYB.out.set_ 2 (.int .i64 0))
  have HVU : Hid (Below V.heap.size V U) := Lib.hid (by rw [hU]; exact HBY.out.setCell hne2 _)
  have HWU : Hid (Below W.heap.size W U) := Lib.hid (below_step HBV.out HVU.out)
  have HLU : Hid (LOk U 3 NodeD.cells ⟨bn, B, d⟩) := Lib.hid (HL2.out.below (show Below w2.heap.size w2 U from by rw [hU]; exact (HY2.out).setCell (Nat.le_refl _) _) (Nat.le_refl _))
  rw [← hU]
  clear hU y0 y1 y2 fy2
  have y0 : U.cell? ⟨w2.heap.size, 0, none⟩ = some (.slice B bn.length d) := HUB.out.cell 0
  have y1 : U.cell? ⟨w2.heap.size, 1, none⟩ = some (.int .i64 bj) := HUB.out.cell 1
  have y2 : U.cell? ⟨w2.heap.size, 2, none⟩ = some (.int .i64 0) := HUB.out.cell 2
  have hp3 := hps U HWU.out
  go_wp2_with fail
  refine (HOZ.out U HWU.out).mono ?_
  rintro r w3 ⟨⟨Cz, cz, rfl, hl, hn, hf⟩, hb⟩
  have HB3 := Lib.hid hb
  have HL3 := Lib.hid hl
  have HN3 := Lib.hid hn
  have HF3 : Hid (∀ a, Cz = some a → w.heap.size ≤ a.block ∧ a.block ≠ w.heap.size + 1) := Lib.hid (fun a h => by have := hf a h; have := HWU.out.size; have := HSZ.out; omega)
  clear hb hl hn hf hp3
  go_upto_region 29 with fail
  obtain ⟨Z, hZ⟩ : ∃ Z, Z = w3.alloc (.cells #[.slice Cz zn.length cz, .int .i64 zj, .int .i64 0] 88) := ⟨_, rfl⟩
  have HZB : Hid (Blk Z w3.heap.size 88 #[.slice Cz zn.length cz, .int .i64 zj, .int .i64 0]) := Lib.hid (by rw [hZ]; exact Blk.new _ _ _)
  have HUZ : Hid (Below U.heap.size U Z) := Lib.hid (by rw [hZ]; exact below_alloc HB3.out _)
  have HLZ : Hid (LOk Z 3 NodeD.cells ⟨zn, Cz, cz⟩) := Lib.hid (by rw [hZ]; exact HL3.out.below (below1 _ _) (Nat.le_refl _))
  have HWZ : Hid (Below W.heap.size W Z) := Lib.hid (below_step HWU.out HUZ.out)
  have hne3b : w.heap.size + 2 ≤ w3.heap.size := by have := HB3.out.size; have := HWU.out.size; have := HSZ.out; omega
  rw [← hZ]
  clear hZ y0 y1 y2
  have z0 : Z.cell? ⟨w3.heap.size, 0, none⟩ = some (.slice Cz zn.length cz) := HZB.out.cell 0
  have z1 : Z.cell? ⟨w3.heap.size, 1, none⟩ = some (.int .i64 zj) := HZB.out.cell 1
  have z2 : Z.cell? ⟨w3.heap.size, 2, none⟩ = some (.int .i64 0) := HZB.out.cell 2
  have HUBu := Lib.hid (fun u (h : Below U.heap.size U u) => HUB.out.below h HUB.out.lt)
  obtain ⟨jn, hjn⟩ : ∃ jn, jn = bn ++ zn := ⟨_, rfl⟩
  have HJ := Lib.hid (fun u (h : Below Z.heap.size Z u) => show Calls Tryz.prog 71 #[.agg #[.slice B bn.length d, .int .i64 bj, .int .i64 0], .agg #[.slice Cz zn.length cz, .int .i64 zj, .int .i64 0]] u (RG u ⟨jn, zj, 0⟩) from by
    rw [hjn]; exact rjoin_any ⟨bn, bj, 0⟩ ⟨zn, zj, 0⟩ B Cz d cz u (HLU.out.below (below_step HUZ.out h) (Nat.le_refl _)) HN2.out (HLZ.out.below h (Nat.le_refl _)) HN3.out (by simp only; omega))
  have HPX := Lib.hid (fun u (J : Option Addr) (k : Nat) (h : Below Z.heap.size Z u) (hl : LOk u 3 NodeD.cells ⟨jn, J, k⟩) (hn : J = none → k = 0) => show Calls Tryz.prog 67 #[.agg #[.int .i64 17, .int .i64 0, .int .i64 0], .agg #[.slice A an.length c, .int .i64 aj, .int .i64 0], .agg #[.slice J jn.length k, .int .i64 zj, .int .i64 0]] u (RG u ⟨rn, rj, re⟩) from by
    rw [hR, ← hjn]; exact rprefix_any ⟨17, 0, 0⟩ ⟨an, aj, 0⟩ ⟨jn, zj, 0⟩ A J c k u (HLV.out.below (below_step HVU.out (below_step HUZ.out h)) (Nat.le_refl _)) HN.out hl hn (by simp only; rw [hjn, List.length_append]; omega))
  clear hR hjn
  have HS := Lib.hid (fun u (h : Below Z.heap.size Z u) => show (fun w' => w'.cell? ⟨w1.heap.size, 0, none⟩ = some (.slice A an.length c) ∧ w'.cell? ⟨w1.heap.size, 1, none⟩ = some (.int .i64 aj) ∧ w'.cell? ⟨w1.heap.size, 2, none⟩ = some (.int .i64 0) ∧ w'.cell? ⟨w2.heap.size, 0, none⟩ = some (.slice B bn.length d) ∧ w'.cell? ⟨w2.heap.size, 1, none⟩ = some (.int .i64 bj) ∧ w'.cell? ⟨w2.heap.size, 2, none⟩ = some (.int .i64 0) ∧ w'.cell? ⟨w3.heap.size, 0, none⟩ = some (.slice Cz zn.length cz) ∧ w'.cell? ⟨w3.heap.size, 1, none⟩ = some (.int .i64 zj) ∧ w'.cell? ⟨w3.heap.size, 2, none⟩ = some (.int .i64 0)) u from ⟨(HVB.out.below (below_step HVU.out (below_step HUZ.out h)) HVB.out.lt).cell 0, (HVB.out.below (below_step HVU.out (below_step HUZ.out h)) HVB.out.lt).cell 1, (HVB.out.below (below_step HVU.out (below_step HUZ.out h)) HVB.out.lt).cell 2, (HUBu.out u (below_step HUZ.out h)).cell 0, (HUBu.out u (below_step HUZ.out h)).cell 1, (HUBu.out u (below_step HUZ.out h)).cell 2, (HZB.out.below h HZB.out.lt).cell 0, (HZB.out.below h HZB.out.lt).cell 1, (HZB.out.below h HZB.out.lt).cell 2⟩)
  have HS2 := Lib.hid (fun u (h : Below Z.heap.size Z u) (x y z : Value) => show (fun w' => w'.cell? ⟨w1.heap.size, 0, none⟩ = some (.slice A an.length c) ∧ w'.cell? ⟨w1.heap.size, 1, none⟩ = some (.int .i64 aj) ∧ w'.cell? ⟨w1.heap.size, 2, none⟩ = some (.int .i64 0) ∧ w'.cell? ⟨w2.heap.size, 0, none⟩ = some (.slice B bn.length d) ∧ w'.cell? ⟨w2.heap.size, 1, none⟩ = some (.int .i64 bj) ∧ w'.cell? ⟨w2.heap.size, 2, none⟩ = some (.int .i64 0) ∧ w'.cell? ⟨w3.heap.size, 0, none⟩ = some (.slice Cz zn.length cz) ∧ w'.cell? ⟨w3.heap.size, 1, none⟩ = some (.int .i64 zj) ∧ w'.cell? ⟨w3.heap.size, 2, none⟩ = some (.int .i64 0)) (((u.setCell ⟨w.heap.size + 1, 0, none⟩ x).setCell ⟨w.heap.size + 1, 1, none⟩ y).setCell ⟨w.heap.size + 1, 2, none⟩ z) from ⟨(cell_put3 (by omega) x y z).trans ((HVB.out.below (below_step HVU.out (below_step HUZ.out h)) HVB.out.lt).cell 0), (cell_put3 (by omega) x y z).trans ((HVB.out.below (below_step HVU.out (below_step HUZ.out h)) HVB.out.lt).cell 1), (cell_put3 (by omega) x y z).trans ((HVB.out.below (below_step HVU.out (below_step HUZ.out h)) HVB.out.lt).cell 2), (cell_put3 (by omega) x y z).trans ((HUBu.out u (below_step HUZ.out h)).cell 0), (cell_put3 (by omega) x y z).trans ((HUBu.out u (below_step HUZ.out h)).cell 1), (cell_put3 (by omega) x y z).trans ((HUBu.out u (below_step HUZ.out h)).cell 2), (cell_put3 (by omega) x y z).trans ((HZB.out.below h HZB.out.lt).cell 0), (cell_put3 (by omega) x y z).trans ((HZB.out.below h HZB.out.lt).cell 1), (cell_put3 (by omega) x y z).trans ((HZB.out.below h HZB.out.lt).cell 2)⟩)
  have H0Z := Lib.hid (Below.refl Z.heap.size Z)
  go_upto_region 31 with fail
  clear z0 z1 z2 hps
  refine wp_region_held_drew (S := (fun w' => w'.cell? ⟨w1.heap.size, 0, none⟩ = some (.slice A an.length c) ∧ w'.cell? ⟨w1.heap.size, 1, none⟩ = some (.int .i64 aj) ∧ w'.cell? ⟨w1.heap.size, 2, none⟩ = some (.int .i64 0) ∧ w'.cell? ⟨w2.heap.size, 0, none⟩ = some (.slice B bn.length d) ∧ w'.cell? ⟨w2.heap.size, 1, none⟩ = some (.int .i64 bj) ∧ w'.cell? ⟨w2.heap.size, 2, none⟩ = some (.int .i64 0) ∧ w'.cell? ⟨w3.heap.size, 0, none⟩ = some (.slice Cz zn.length cz) ∧ w'.cell? ⟨w3.heap.size, 1, none⟩ = some (.int .i64 zj) ∧ w'.cell? ⟨w3.heap.size, 2, none⟩ = some (.int .i64 0))) (by kernel_rfl) (HS.out _ (below_drew H0Z.out)) (fun hHeld => ?_)
  refine wpAnyH_take (i := 0) (oi := { dst := some 165, op := Op.build 65 #[(0, Operand.const (Value.int IntKind.i64 17))], type := 65, pos := "ref.go:314", after := #[], guard := none }) (v := ?cv0) rfl (by kernel_rfl) (by kernel_rfl) (by kernel_rfl) (fun _ _ _ h => h) (Or.inl ⟨by rfl, ?cy0⟩) (by assumption) ?cr0
  case cy0 => (intro w hSw; (try dsimp only at hSw); go_simp; try (with_reducible rfl))
  try simp only [Act.put, List.setIfInBounds_toArray, List.set_cons_zero, List.set_cons_succ]
  refine wpAnyH_take (i := 1) (oi := { dst := some 166, op := Op.load 88 (Operand.tmp 8), type := 88, pos := "ref.go:314", after := #[], guard := none }) (v := ?cv1) rfl (by kernel_rfl) (by kernel_rfl) (by kernel_rfl) (fun _ _ _ h => h) (Or.inl ⟨by rfl, ?cy1⟩) (by assumption) ?cr1
  case cy1 => (intro w hSw; (try dsimp only at hSw); go_simp; try (with_reducible rfl))
  try simp only [Act.put, List.setIfInBounds_toArray, List.set_cons_zero, List.set_cons_succ]
  refine wpAnyH_take (i := 2) (oi := { dst := some 167, op := Op.load 88 (Operand.tmp 12), type := 88, pos := "ref.go:314", after := #[], guard := none }) (v := ?cv2) rfl (by kernel_rfl) (by kernel_rfl) (by kernel_rfl) (fun _ _ _ h => h) (Or.inl ⟨by rfl, ?cy2⟩) (by assumption) ?cr2
  case cy2 => (intro w hSw; (try dsimp only at hSw); go_simp; try (with_reducible rfl))
  try simp only [Act.put, List.setIfInBounds_toArray, List.set_cons_zero, List.set_cons_succ]
  refine wpAnyH_take (i := 3) (oi := { dst := some 168, op := Op.load 88 (Operand.tmp 13), type := 88, pos := "ref.go:314", after := #[], guard := none }) (v := ?cv3) rfl (by kernel_rfl) (by kernel_rfl) (by kernel_rfl) (fun _ _ _ h => h) (Or.inl ⟨by rfl, ?cy3⟩) (by assumption) ?cr3
  case cy3 => (intro w hSw; (try dsimp only at hSw); go_simp; try (with_reducible rfl))
  try simp only [Act.put, List.setIfInBounds_toArray, List.set_cons_zero, List.set_cons_succ]
  refine wpAnyH_ready (rs := [4]) (by kernel_rfl) (by simp) ?_
  refine AllReadyH.cons (o := { dst := some 169, op := Op.call { callee := Callee.value (Operand.func 71), args := #[Operand.tmp 167, Operand.tmp 168], argTypes := #[88, 88] }, type := 88, pos := "ref.go:314", after := #[{ on := 2, ground := Ground.data }, { on := 3, ground := Ground.data }], guard := none }) rfl (fun K hK => ?_) AllReadyH.nil
  go_simp
  go_at_call 71
  refine (HJ.out _ (below_drew H0Z.out)).mono ?_
  rintro r w4 ⟨⟨A4, c4, rfl, hl4, hn4, hf4⟩, hb4⟩
  have HB4 : Hid (Below Z.heap.size Z w4) := Lib.hid (below_step (below_drew H0Z.out) hb4)
  have HL4 := Lib.hid hl4
  have HN4 := Lib.hid hn4
  have HF4 := Lib.hid hf4
  have hNEW := HS.out w4 HB4.out
  refine hK.out _ _ hNEW (fun hHeld4 => ?_)
  clear hK K hl4 hn4 hf4 hb4 hNEW
  refine wpAnyH_ready (rs := [5]) (by kernel_rfl) (by simp) ?_
  refine AllReadyH.cons (o := { dst := some 170, op := Op.call { callee := Callee.value (Operand.func 67), args := #[Operand.tmp 165, Operand.tmp 166, Operand.tmp 169], argTypes := #[65, 88, 88] }, type := 88, pos := "ref.go:314", after := #[{ on := 0, ground := Ground.data }, { on := 1, ground := Ground.data }, { on := 4, ground := Ground.data }, { on := 4, ground := Ground.chain }], guard := none }) rfl (fun K hK => ?_) AllReadyH.nil
  go_simp
  go_at_call 67
  refine (HPX.out _ A4 c4 HB4.out HL4.out HN4.out).mono ?_
  rintro r w5 ⟨⟨A5, c5, rfl, hl5, hn5, hf5⟩, hb5⟩
  have HB5 : Hid (Below Z.heap.size Z w5) := Lib.hid (below_step HB4.out hb5)
  have HL5 := Lib.hid hl5
  have HN5 := Lib.hid hn5
  have HF5 := Lib.hid hf5
  have hNEW := HS.out w5 HB5.out
  refine hK.out _ _ hNEW (fun hHeld5 => ?_)
  clear hK K hl5 hn5 hf5 hb5 hNEW
  refine wpAnyH_ready (rs := [6]) (by kernel_rfl) (by simp) ?_
  refine AllReadyH.cons (o := { dst := none, op := Op.store 88 (Operand.tmp 6) (Operand.tmp 170), type := 0, pos := "ref.go:314", after := #[{ on := 5, ground := Ground.data }, { on := 5, ground := Ground.chain }, { on := 0, ground := Ground.phase }, { on := 1, ground := Ground.phase }, { on := 2, ground := Ground.phase }, { on := 3, ground := Ground.phase }, { on := 4, ground := Ground.phase }, { on := 5, ground := Ground.phase }], guard := none }) rfl (fun K hK => ?_) AllReadyH.nil
  have HRU := Lib.hid (HRB.out w5 (below_step HWZ.out HB5.out))
  have r0 : w5.cell? ⟨w.heap.size + 1, 0, none⟩ = some (.slice none 0 0) := HRU.out.cell 0
  have r1 : w5.cell? ⟨w.heap.size + 1, 1, none⟩ = some (.int .i64 0) := HRU.out.cell 1
  have r2 : w5.cell? ⟨w.heap.size + 1, 2, none⟩ = some (.int .i64 0) := HRU.out.cell 2
  have g0 : w5.frozen? ⟨w.heap.size + 1, 0, none⟩ = false := HRU.out.frozen 0
  have g1 : w5.frozen? ⟨w.heap.size + 1, 1, none⟩ = false := HRU.out.frozen 1
  have g2 : w5.frozen? ⟨w.heap.size + 1, 2, none⟩ = false := HRU.out.frozen 2
  go_simp
  have hNEW := HS2.out w5 HB5.out (.slice A5 rn.length c5) (.int .i64 rj) (.int .i64 re)
  refine hK.out _ _ hNEW (fun hHeld9 => ?_)
  clear hK K hNEW hHeld9 r0 r1 r2 g0 g1 g2
  refine wpAnyH_done (by kernel_rfl) ?_ _
  have HLE : Hid (Z.heap.size ≤ w4.heap.size) := Lib.hid HB4.out.size
  have HFAR : Hid (w.heap.size ≤ Z.heap.size ∧ w.heap.size + 1 < Z.heap.size) := Lib.hid (by have := HWZ.out.size; have := HSZ.out; omega)
  go_wp2
  refine bodyPost_ret (v := .agg #[.slice A5 rn.length c5, .int .i64 rj, .int .i64 re]) ?_ rfl ?_
  · exact results_cell_row (fn := Tryz.f30) (p := 6) (ty := 88) rfl _ _ (w.heap.size + 1) 88 #[.slice A5 rn.length c5, .int .i64 rj, .int .i64 re] (0, 0) _ rfl (rput3 HRU.out _ _ _) Tryz.underlying88 rfl (by kernel_rfl)
  · exact RG.put (R := ⟨rn, rj, re⟩) (A := A5) (c := c5) (W := Z) (Nat.le_succ _) (below_step HW.out (below_step HWZ.out HB5.out)) HL5.out HN5.out (fun a h => Nat.le_trans HLE.out (HF5.out a h)) HFAR.out _ _ _ rfl
end Go.Proofs.YtpomjcndeanjgaaGreatDoor
namespace Go.Proofs.YtpomjcndeanjgaaGreatDoor
open Go.RowKit
theorem rvalid_any (n : Int) (w : World) :
    Calls Tryz.prog 121 #[.int .i64 n] w fun e w' => e = .returned (.bool (okW n)) ∧ w = w' := by
  by_cases h1 : 1 ≤ n
  · have HR := Lib.hid (show okW n = decide (n ≤ 32) by simp [okW, h1])
    by_cases h2 : n ≤ 32
    all_goals
      go_enter Tryz.func121, Tryz.ntmps121
      go_wp2
      go_ret
      exact ⟨by rw [HR.out]; simp [h2], rfl⟩
  · have HR := Lib.hid (show okW n = false by simp [okW, h1])
    go_enter Tryz.func121, Tryz.ntmps121
    go_wp2
    go_ret
    exact ⟨by rw [HR.out]; rfl, rfl⟩
theorem pow_le40 {k : Nat} (h : k ≤ 40) : 2 ^ k ≤ 1099511627776 := Nat.pow_le_pow_right (by decide) h
theorem rpower_any (n : Nat) (hn : n ≤ 40) (w : World) :
    Calls Tryz.prog 122 #[.int .i64 n] w fun e w' => e = .returned (.int .u64 ((2 ^ n : Nat) : Int)) ∧ w = w' := by
  go_enter Tryz.func122, Tryz.ntmps122
  go_wp2
  go_loop [3, 4] (fun v i => ∃ k x : Nat, k ≤ n ∧ i = .int .i64 k ∧ v = .int .u64 x ∧ Hid (x = 2 ^ k)) (fun _ i => n - (intOf i).toNat)
  case atStart => exact ⟨0, 1, Nat.zero_le _, rfl, rfl, Lib.hid rfl⟩
  case round =>
  obtain ⟨k, x, hk, rfl, rfl, hx⟩ := hrel
  by_cases hlt : k < n
  · have HX : Hid (2 * x = 2 ^ (k + 1) ∧ 2 * x ≤ 1099511627776) := Lib.hid (by
      have h1 : 2 * x = 2 ^ (k + 1) := by rw [hx.out, Nat.pow_succ, Nat.mul_comm]
      exact ⟨h1, by rw [h1]; exact pow_le40 (by omega)⟩)
    go_wp2
    go_round
    case rel => exact ⟨k + 1, 2 * x, by omega, by go_num, by
      have h2 := HX.out.2
      refine congrArg (Value.int .u64) ?_
      rw [IntWalk.u64_in _ (by omega)]; rfl, Lib.hid HX.out.1⟩
    case measure => simp [intOf]; omega
  · have e : k = n := by omega
    subst e
    go_wp2
    go_ret
    exact ⟨by rw [hx.out]; simp, rfl⟩
theorem rmask_any (n : Int) (w : World) :
    Calls Tryz.prog 106 #[.int .i64 n] w fun e w' => e = .returned (.int .u32 (maskM n)) ∧ w = w' := by
  cases hv : okW n
  · have HM := Lib.hid (show maskM n = 0 by rw [maskM, hv]; rfl)
    have HV := Lib.hid hv
    clear hv
    go_enter Tryz.func106, Tryz.ntmps106
    go_wp2_with fail
    refine (rvalid_any n _).mono ?_
    rintro e w1 ⟨rfl, rfl⟩
    rw [HV.out]
    go_wp2
    go_ret
    exact ⟨by rw [HM.out]; rfl, rfl⟩
  · have HV := Lib.hid hv
    have hr : 1 ≤ n ∧ n ≤ 32 := okW_iff.1 hv
    obtain ⟨m, rfl⟩ : ∃ m : Nat, n = m := ⟨n.toNat, by omega⟩
    have HR := Lib.hid hr
    have HM : Hid (IntKind.u32.wrap (((2 ^ m : Nat) : Int) - 1) = (maskM m : Int)) := Lib.hid (by
      have h1 : maskM (m : Int) = 2 ^ m - 1 := by rw [maskM, hv]; rfl
      have h2 : 2 ^ m ≤ 2 ^ 32 := Nat.pow_le_pow_right (by decide) (by omega)
      have h3 : 0 < 2 ^ m := Nat.pow_pos (by decide)
      rw [h1, IntWalk.u32_in _ (by omega)]
      omega)
    have HP : Hid ((2 ^ m : Nat) ≤ 4294967296 ∧ 0 < 2 ^ m) := Lib.hid ⟨Nat.pow_le_pow_right (n := 2) (by decide) (show m ≤ 32 by omega), Nat.pow_pos (by decide)⟩
    clear hv hr
    go_enter Tryz.func106, Tryz.ntmps106
    go_wp2_with fail
    refine (rvalid_any m _).mono ?_
    rintro e w1 ⟨rfl, rfl⟩
    rw [HV.out]
    go_wp2_with fail
    refine (rpower_any m (by have := HR.out; omega) _).mono ?_
    rintro e w1 ⟨rfl, rfl⟩
    generalize hX : 2 ^ m = X at *
    have hX1 : 0 < (X : Int) := by have := HP.out; omega
    have hX2 : (X : Int) ≤ 4294967296 := by have := HP.out; omega
    clear hX
    go_wp2
    go_ret
    exact ⟨by rw [← HM.out, IntWalk.u32_in _ (by omega)]; rfl, rfl⟩
end Go.Proofs.YtpomjcndeanjgaaGreatDoor
namespace Go.Proofs.YtpomjcndeanjgaaGreatDoor
open Go.RowKit
theorem rarity_any (op : Int) (w : World) : Calls Tryz.prog 78 #[.int .i64 op] w fun e w' => e = .returned (.int .i64 (arityM op)) ∧ w = w' := by
  have hd : op < 1 ∨ (1 ≤ op ∧ op ≤ 4) ∨ (5 ≤ op ∧ op ≤ 8) ∨ (9 ≤ op ∧ op ≤ 16) ∨ op = 17 ∨ 17 < op := by omega
  rcases hd with h | ⟨h1, h2⟩ | ⟨h1, h2⟩ | ⟨h1, h2⟩ | h | h
  · have HR := Lib.hid (show arityM op = -1 by unfold arityM; repeat' split <;> omega)
    have k1 : (op == 17) = false := beq_eq_false_iff_ne.2 (by omega)
    have k2 : ¬ 5 ≤ op := by omega
    have k3 : ¬ 9 ≤ op := by omega
    go_enter Tryz.func78, Tryz.ntmps78
    go_wp2
    go_ret
    exact ⟨by rw [HR.out]; rfl, rfl⟩
  · have HR := Lib.hid (show arityM op = 0 by unfold arityM; repeat' split <;> omega)
    go_enter Tryz.func78, Tryz.ntmps78
    go_wp2
    go_ret
    exact ⟨by rw [HR.out]; rfl, rfl⟩
  · have HR := Lib.hid (show arityM op = 1 by unfold arityM; repeat' split <;> omega)
    have k2 : 1 ≤ op := by omega
    have k3 : ¬ op ≤ 4 := by omega
    go_enter Tryz.func78, Tryz.ntmps78
    go_wp2
    go_ret
    exact ⟨by rw [HR.out]; rfl, rfl⟩
  · have HR := Lib.hid (show arityM op = 2 by unfold arityM; repeat' split <;> omega)
    have k2 : 1 ≤ op := by omega
    have k3 : ¬ op ≤ 4 := by omega
    have k4 : 5 ≤ op := by omega
    have k5 : ¬ op ≤ 8 := by omega
    go_enter Tryz.func78, Tryz.ntmps78
    go_wp2
    go_ret
    exact ⟨by rw [HR.out]; rfl, rfl⟩
  · subst h
    go_enter Tryz.func78, Tryz.ntmps78
    go_wp2
    go_ret
    exact ⟨rfl, rfl⟩
  · have HR := Lib.hid (show arityM op = -1 by unfold arityM; repeat' split <;> omega)
    have k1 : (op == 17) = false := beq_eq_false_iff_ne.2 (by omega)
    have k2 : 1 ≤ op := by omega
    have k3 : ¬ op ≤ 4 := by omega
    have k4 : 5 ≤ op := by omega
    have k5 : ¬ op ≤ 8 := by omega
    have k6 : 9 ≤ op := by omega
    have k7 : ¬ op ≤ 16 := by omega
    go_enter Tryz.func78, Tryz.ntmps78
    go_wp2
    go_ret
    exact ⟨by rw [HR.out]; rfl, rfl⟩
theorem rwide_any (n : Int) (w : World) : Calls Tryz.prog 105 #[.int .i64 n] w fun e w' => e = .returned (.tuple #[.int .i64 (wideM n).1, .int .i64 (wideM n).2]) ∧ w = w' := by
  cases h : okW n
  · have HR := Lib.hid (wideM_bad h)
    have h' := okW_not.1 h
    clear h
    by_cases h2 : n < 1
    · go_enter Tryz.func105, Tryz.ntmps105
      go_wp2
      go_ret2
      exact ⟨by rw [HR.out]; rfl, rfl⟩
    · have h1 : 32 < n := by omega
      go_enter Tryz.func105, Tryz.ntmps105
      go_wp2
      go_ret2
      exact ⟨by rw [HR.out]; rfl, rfl⟩
  · have HR := Lib.hid (wideM_ok h)
    obtain ⟨h1, h2⟩ := okW_iff.1 h
    go_enter Tryz.func105, Tryz.ntmps105
    go_wp2
    go_ret2
    exact ⟨by rw [HR.out]; rfl, rfl⟩
def declV (d : Option FieldD) : Value := .tuple #[.int .i64 (d.getD noField).width, .bool d.isSome]
set_option maxRecDepth 100000 in
set_option maxHeartbeats 2000000 in
theorem rdeclared_any (p : ProgD) (h f : Int) (w : World) (o : ProgOk w p) :
    Calls Tryz.prog 107 #[.agg (progCells p), .agg #[.int .i64 h, .int .i64 f]] w fun e w' => e = .returned (declV (declF p h f)) ∧ Below w.heap.size w w' := by
  have HO := Lib.hid o
  clear o
  have hca := @World.cell?_alloc_some
  rcases fieldsOf_cases p h with ⟨rfl, hx⟩ | ⟨h1, h2, hx⟩ | ⟨k, hk, rfl, hx⟩
  · rcases declF_cases hx f with ⟨h3, hd⟩ | ⟨j, hj, rfl, hd⟩
    · have HR := Lib.hid hd
      clear hd hx
      by_cases h4 : f < 0
      · clear h3
        go_enter Tryz.func107, Tryz.ntmps107
        go_wp2
        go_ret2
        exact ⟨by rw [HR.out]; rfl, below2 _ _ _⟩
      · have h5 : (p.metadata.l.length : Int) ≤ f := by omega
        clear h3
        go_enter Tryz.func107, Tryz.ntmps107
        go_wp2
        go_ret2
        exact ⟨by rw [HR.out]; rfl, below2 _ _ _⟩
    · have HR := Lib.hid hd
      obtain ⟨g, of, hA, d0, d1⟩ := FieldD.at HO.out.metadata hj
      simp only [progCells, hA]
      clear hd hx hA
      generalize p.metadata.l[j] = y at *
      go_enter Tryz.func107, Tryz.ntmps107
      go_wp2
      go_ret2
      exact ⟨by rw [HR.out]; rfl, below2 _ _ _⟩
  · have HR := Lib.hid (declF_none hx f)
    have h1' : (h == -1) = false := beq_eq_false_iff_ne.2 h1
    clear hx
    by_cases h4 : h < 0
    · clear h2
      go_enter Tryz.func107, Tryz.ntmps107
      go_wp2
      go_ret2
      exact ⟨by rw [HR.out]; rfl, below2 _ _ _⟩
    · have h5 : (p.headers.l.length : Int) ≤ h := by omega
      clear h2
      go_enter Tryz.func107, Tryz.ntmps107
      go_wp2
      go_ret2
      exact ⟨by rw [HR.out]; rfl, below2 _ _ _⟩
  · obtain ⟨g, of, hA, d0, d1⟩ := HeaderD.at HO.out.headers hk
    have HF := Lib.hid (HO.out.hdr _ (List.getElem_mem hk)).fields
    have h1' : ((k : Int) == -1) = false := beq_eq_false_iff_ne.2 (by omega)
    simp only [progCells, hA]
    clear hA
    generalize p.headers.l[k] = x at *
    obtain ⟨xn, ⟨fl, fA, fc⟩⟩ := x
    simp only [L.v] at d1
    rcases declF_cases hx f with ⟨h3, hd⟩ | ⟨j, hj, rfl, hd⟩
    · have HR := Lib.hid hd
      simp only at h3
      clear hd hx
      by_cases h4 : f < 0
      · clear h3
        go_enter Tryz.func107, Tryz.ntmps107
        go_wp2
        go_ret2
        exact ⟨by rw [HR.out]; rfl, below2 _ _ _⟩
      · have h5 : (fl.length : Int) ≤ f := by omega
        clear h3
        go_enter Tryz.func107, Tryz.ntmps107
        go_wp2
        go_ret2
        exact ⟨by rw [HR.out]; rfl, below2 _ _ _⟩
    · have HR := Lib.hid hd
      simp only at hj
      obtain ⟨g2, of2, hA, e0, e1⟩ := FieldD.at HF.out hj
      simp only at hA e0 e1
      subst hA
      clear hd hx
      simp only at HR
      generalize fl[j] = y at *
      go_enter Tryz.func107, Tryz.ntmps107
      go_wp2
      go_ret2
      exact ⟨by rw [HR.out]; rfl, below2 _ _ _⟩
end Go.Proofs.YtpomjcndeanjgaaGreatDoor
namespace Go.Proofs.YtpomjcndeanjgaaGreatDoor
open Go.RowKit
set_option maxRecDepth 100000 in
set_option maxHeartbeats 4000000 in
theorem rleaf_any (p : ProgD) (ps : L FieldD) (op n wd : Int) (w : World) (o : ProgOk w p) (hps : LOk w 2 FieldD.cells ps) :
    Calls Tryz.prog 79 #[.agg #[.int .i64 op, .int .i64 n, .int .i64 wd], .agg (scopeCells p ps)] w fun e w' =>
      e = .returned (.tuple #[.int .i64 (primM p ps.l ⟨op, n, wd⟩).1, .int .i64 (primM p ps.l ⟨op, n, wd⟩).2]) ∧ Below w.heap.size w w' := by
  have HO := Lib.hid o
  have HP := Lib.hid hps
  clear o hps
  obtain ⟨W, hW, hw, HB, hp⟩ := box2 w #[.int .i64 op, .int .i64 n, .int .i64 wd] 65 (scopeCells p ps) 44
  have HW := Lib.hid hw
  clear hw
  have HR := Lib.hid (primM.eq_1 p ps.l ⟨op, n, wd⟩)
  by_cases k1 : op = 1
  · subst k1
    replace HR := Lib.hid (HR.out.trans (if_pos rfl))
    have hm := maskM_lt wd
    have hwr : IntKind.i64.wrap (maskM wd : Int) = (maskM wd : Int) := IntWalk.i64_in _ (by omega)
    go_enter Tryz.func79, Tryz.ntmps79
    go_upto_region 1 with fail
    rw [← hW]
    clear hW
    go_wp2_with fail
    refine (rwide_any wd _).mono ?_
    rintro e w' ⟨rfl, rfl⟩
    cases hv : okW wd
    · replace HR := Lib.hid (HR.out.trans (if_neg (show ¬ okW wd = true by rw [hv]; simp)))
      rw [wideM_bad hv]
      go_wp2
      go_quiet (fail)
      go_wp2
      go_ret2
      exact ⟨ret_pp HR.out, below_step HW.out (below_drewN HB _)⟩
    · replace HR := Lib.hid (HR.out.trans (if_pos hv))
      rw [wideM_ok hv]
      by_cases k2 : n < 0
      · replace HR := Lib.hid (HR.out.trans (if_pos (.inl k2)))
        have k2' : decide (n < 0) = true := decide_eq_true k2
        go_wp2
        go_quiet (fail)
        go_wp2
        go_ret2
        exact ⟨ret_pp HR.out, below_step HW.out (below_drewN HB _)⟩
      · have k2' : decide (n < 0) = false := decide_eq_false k2
        by_cases k3 : (maskM wd : Int) < n
        all_goals
          first
            | replace HR := Lib.hid (HR.out.trans (if_pos (Or.inr k3)))
            | replace HR := Lib.hid (HR.out.trans (if_neg (show ¬ (n < 0 ∨ (maskM wd : Int) < n) from fun h => h.elim k2 k3)))
          have H0 := Lib.hid HB
          clear HB
          go_wp2
          go_region_held3 (fun w' => Below W.heap.size W w') (first | exact H0.out | exact below_drew H0.out | (exact below_step (by assumption) (by assumption)) | assumption)
            (first | (go_at_call 106; refine (rmask_any wd _).mono ?_; rintro e w1 ⟨rfl, rfl⟩))
          have HB5 : Hid (Below W.heap.size W _) := Lib.hid (by assumption)
          have HB := HB5.out
          go_wp2
          go_ret2
          exact ⟨ret_pp HR.out, below_step HW.out HB⟩
  replace HR := Lib.hid (HR.out.trans (if_neg k1))
  have k1' : (op == 1) = false := beq_eq_false_iff_ne.2 k1
  by_cases k2 : op = 2
  · subst k2
    replace HR := Lib.hid (HR.out.trans (if_pos rfl))
    have hca := @World.cell?_alloc_some
    go_enter Tryz.func79, Tryz.ntmps79
    go_upto_region 1 with fail
    rw [← hW]
    clear hW
    go_wp2_with fail
    refine (rdeclared_any p n wd _ (HO.out.below (below_step HW.out (by first | exact HB | exact below_alloc HB _ | exact below_alloc (below_alloc HB _) _ | exact below_alloc (below_alloc (below_alloc HB _) _) _)))).mono ?_
    rintro e w1 ⟨rfl, hbN⟩
    replace HB := below_step (by first | exact HB | exact below_alloc HB _ | exact below_alloc (below_alloc HB _) _ | exact below_alloc (below_alloc (below_alloc HB _) _) _) hbN
    clear hbN
    rcases hd : declF p n wd with _ | y
    · simp only [declM, hd, Option.map_none] at HR
      simp only [declV, Option.getD_none, Option.isSome_none]
      go_wp2
      go_ret2
      exact ⟨ret_pp HR.out, below_step HW.out (by first | exact HB | exact below_alloc HB _ | exact below_alloc (below_alloc HB _) _ | exact below_alloc (below_alloc (below_alloc HB _) _) _)⟩
    · simp only [declM, hd, Option.map_some] at HR
      simp only [declV, Option.getD_some, Option.isSome_some]
      go_wp2_with fail
      refine (rwide_any y.width _).mono ?_
      rintro e w' ⟨rfl, rfl⟩
      go_wp2
      go_ret2
      exact ⟨ret_pp HR.out, below_step HW.out (by first | exact HB | exact below_alloc HB _ | exact below_alloc (below_alloc HB _) _ | exact below_alloc (below_alloc (below_alloc HB _) _) _)⟩
  replace HR := Lib.hid (HR.out.trans (if_neg k2))
  have k2' : (op == 2) = false := beq_eq_false_iff_ne.2 k2
  by_cases k3 : op = 3
  · subst k3
    replace HR := Lib.hid (HR.out.trans (if_pos rfl))
    by_cases k4 : n < 0
    · replace HR := Lib.hid (HR.out.trans (if_pos k4))
      go_enter Tryz.func79, Tryz.ntmps79
      go_upto_region 1 with fail
      rw [← hW]
      clear hW
      go_wp2
      go_ret2
      exact ⟨ret_pp HR.out, below_step HW.out HB⟩
    · replace HR := Lib.hid (HR.out.trans (if_neg k4))
      obtain ⟨k, rfl⟩ : ∃ k : Nat, n = k := ⟨n.toNat, by omega⟩
      by_cases k5 : k < ps.l.length
      · obtain ⟨g, of, hA, hq⟩ := FieldD.atA (HP.out.below HW.out (Nat.le_refl _)) k5
        have HR2 := Lib.hid (show primM p ps.l ⟨3, k, wd⟩ = wideM (ps.l[k]).width by rw [HR.out]; simp [k5])
        simp only [scopeCells, hA] at hW hp ⊢
        generalize ps.l[k] = y at *
        go_enter Tryz.func79, Tryz.ntmps79
        go_upto_region 1 with fail
        rw [← hW]
        clear hW
        go_wp2_with fail
        refine (rwide_any y.width _).mono ?_
        rintro e w' ⟨rfl, rfl⟩
        go_wp2
        go_ret2
        exact ⟨ret_pp HR2.out, below_step HW.out HB⟩
      · have HR2 := Lib.hid (show primM p ps.l ⟨3, k, wd⟩ = (0, 8) by rw [HR.out]; simp [List.getElem?_eq_none (Nat.le_of_not_lt k5)])
        go_enter Tryz.func79, Tryz.ntmps79
        go_upto_region 1 with fail
        rw [← hW]
        clear hW
        go_wp2
        go_ret2
        exact ⟨ret_pp HR2.out, below_step HW.out HB⟩
  replace HR := Lib.hid (HR.out.trans (if_neg k3))
  have k3' : (op == 3) = false := beq_eq_false_iff_ne.2 k3
  by_cases k4 : n < 0
  · replace HR := Lib.hid (HR.out.trans (if_pos (.inl k4)))
    go_enter Tryz.func79, Tryz.ntmps79
    go_upto_region 1 with fail
    rw [← hW]
    clear hW
    go_wp2
    go_ret2
    exact ⟨ret_pp HR.out, below_step HW.out HB⟩
  by_cases k5 : (p.headers.l.length : Int) ≤ n
  · replace HR := Lib.hid (HR.out.trans (if_pos (.inr k5)))
    go_enter Tryz.func79, Tryz.ntmps79
    go_upto_region 1 with fail
    rw [← hW]
    clear hW
    go_wp2
    go_ret2
    exact ⟨ret_pp HR.out, below_step HW.out HB⟩
  · replace HR := Lib.hid (HR.out.trans (if_neg (fun h => h.elim k4 k5)))
    go_enter Tryz.func79, Tryz.ntmps79
    go_upto_region 1 with fail
    rw [← hW]
    clear hW
    go_wp2
    go_ret2
    exact ⟨ret_pp HR.out, below_step HW.out HB⟩
end Go.Proofs.YtpomjcndeanjgaaGreatDoor
namespace Go.Proofs.YtpomjcndeanjgaaGreatDoor
open Go.RowKit
theorem ints1 {w : World} {A : Option Addr} {c : Nat} {a : Int} (h : LOk w 1 icell ⟨[a], A, c⟩) : ∃ g o, A = some ⟨g, o, none⟩ ∧ ∀ w', Below w.heap.size w w' → w'.cell? ⟨g, o, none⟩ = some (.int .i64 a) := by
  obtain ⟨g, o, e, hq⟩ := icell_allA h (by simp)
  exact ⟨g, o, e, fun w' hb => hq w' hb 0 (by simp)⟩
theorem ints2 {w : World} {A : Option Addr} {c : Nat} {a b : Int} (h : LOk w 1 icell ⟨[a, b], A, c⟩) : ∃ g o, A = some ⟨g, o, none⟩ ∧ ∀ w', Below w.heap.size w w' → w'.cell? ⟨g, o, none⟩ = some (.int .i64 a) ∧ w'.cell? ⟨g, o + 1, none⟩ = some (.int .i64 b) := by
  obtain ⟨g, o, e, hq⟩ := icell_allA h (by simp)
  exact ⟨g, o, e, fun w' hb => ⟨hq w' hb 0 (by simp), hq w' hb 1 (by simp)⟩⟩
theorem ints3 {w : World} {A : Option Addr} {c : Nat} {a b d : Int} (h : LOk w 1 icell ⟨[a, b, d], A, c⟩) : ∃ g o, A = some ⟨g, o, none⟩ ∧ ∀ w', Below w.heap.size w w' → w'.cell? ⟨g, o, none⟩ = some (.int .i64 a) ∧ w'.cell? ⟨g, o + 1, none⟩ = some (.int .i64 b) ∧ w'.cell? ⟨g, o + 2, none⟩ = some (.int .i64 d) := by
  obtain ⟨g, o, e, hq⟩ := icell_allA h (by simp)
  exact ⟨g, o, e, fun w' hb => ⟨hq w' hb 0 (by simp), hq w' hb 1 (by simp), hq w' hb 2 (by simp)⟩⟩
set_option maxRecDepth 100000 in
set_option maxHeartbeats 4000000 in
theorem roper1_any (op n wd a : Int) (A : Option Addr) (c : Nat) (w : World) (hop : 5 ≤ op ∧ op ≤ 8) (ha : 0 ≤ a ∧ a ≤ 32) (hok : LOk w 1 icell ⟨[a], A, c⟩) :
    Calls Tryz.prog 80 #[.agg #[.int .i64 op, .int .i64 n, .int .i64 wd], .slice A 1 c] w fun e w' =>
      e = .returned (.tuple #[.int .i64 (combM ⟨op, n, wd⟩ a 0 0).1, .int .i64 (combM ⟨op, n, wd⟩ a 0 0).2]) ∧ Below w.heap.size w w' := by
  obtain ⟨W, hW, hw, HB, hp⟩ := box1 w #[.int .i64 op, .int .i64 n, .int .i64 wd] 65
  have HW := Lib.hid hw
  obtain ⟨g, o, rfl, hq⟩ := ints1 (hok.below hw (Nat.le_refl _))
  clear hok hw
  have hq0 := hq _ HB
  have hp0 := hp _ HB
  obtain ⟨ha1, ha2⟩ := ha
  have hd : op = 5 ∨ (op = 6 ∨ op = 7) ∨ op = 8 := by omega
  clear hop
  rcases hd with rfl | h | rfl
  · have HR : Hid (combM ⟨5, n, wd⟩ a 0 0 = (a, 0)) := Lib.hid (by simp [combM, arityM])
    go_enter Tryz.func80, Tryz.ntmps80
    go_upto_region 1 with fail
    rw [← hW]
    clear hW
    go_wp2
    go_ret2
    exact ⟨ret_pp HR.out, below_step HW.out (by first | exact HB | exact below_drewN HB _)⟩
  · by_cases k : n < 0
    · have HR : Hid (combM ⟨op, n, wd⟩ a 0 0 = (0, 9)) := Lib.hid (by simp [combM, h, k])
      rcases h with rfl | rfl
      all_goals
        go_enter Tryz.func80, Tryz.ntmps80
        go_upto_region 1 with fail
        rw [← hW]
        clear hW
        go_wp2
        go_ret2
        exact ⟨ret_pp HR.out, below_step HW.out (by first | exact HB | exact below_drewN HB _)⟩
    by_cases k2 : 31 < n
    · have HR : Hid (combM ⟨op, n, wd⟩ a 0 0 = (0, 9)) := Lib.hid (by simp [combM, h, k2])
      rcases h with rfl | rfl
      all_goals
        go_enter Tryz.func80, Tryz.ntmps80
        go_upto_region 1 with fail
        rw [← hW]
        clear hW
        go_wp2
        go_ret2
        exact ⟨ret_pp HR.out, below_step HW.out (by first | exact HB | exact below_drewN HB _)⟩
    · have HR : Hid (combM ⟨op, n, wd⟩ a 0 0 = (a, 0)) := Lib.hid (by simp only [combM, if_pos h]; rw [if_neg (by omega)])
      rcases h with rfl | rfl
      all_goals
        go_enter Tryz.func80, Tryz.ntmps80
        go_upto_region 1 with fail
        rw [← hW]
        clear hW
        go_wp2
        go_ret2
        exact ⟨ret_pp HR.out, below_step HW.out (by first | exact HB | exact below_drewN HB _)⟩
  · by_cases k : n < 0
    · have HR : Hid (combM ⟨8, n, wd⟩ a 0 0 = (0, 9)) := Lib.hid (by simp [combM, k])
      go_enter Tryz.func80, Tryz.ntmps80
      go_upto_region 1 with fail
      rw [← hW]
      clear hW
      go_wp2
      go_ret2
      exact ⟨ret_pp HR.out, below_step HW.out (by first | exact HB | exact below_drewN HB _)⟩
    have k' : 0 ≤ n := by omega
    by_cases k1 : wd < 1
    · have k1' : decide (wd < 1) = true := decide_eq_true k1
      have HR : Hid (combM ⟨8, n, wd⟩ a 0 0 = (0, 10)) := Lib.hid (by simp [combM, k, okW_not.2 (.inl k1)])
      go_enter Tryz.func80, Tryz.ntmps80
      go_upto_region 1 with fail
      rw [← hW]
      clear hW
      go_wp2
      go_quiet (fail)
      go_wp2
      go_ret2
      exact ⟨ret_pp HR.out, below_step HW.out (by first | exact HB | exact below_drewN HB _)⟩
    have k1' : decide (wd < 1) = false := decide_eq_false k1
    by_cases k2 : 32 < wd
    · have k2' : decide (32 < wd) = true := decide_eq_true k2
      have HR : Hid (combM ⟨8, n, wd⟩ a 0 0 = (0, 10)) := Lib.hid (by simp [combM, k, okW_not.2 (.inr k2)])
      go_enter Tryz.func80, Tryz.ntmps80
      go_upto_region 1 with fail
      rw [← hW]
      clear hW
      go_wp2
      go_quiet (fail)
      go_wp2
      go_ret2
      exact ⟨ret_pp HR.out, below_step HW.out (by first | exact HB | exact below_drewN HB _)⟩
    have k2' : decide (32 < wd) = false := decide_eq_false k2
    have hv : okW wd = true := okW_iff.2 ⟨by omega, by omega⟩
    have hwr : IntKind.i64.wrap (a - wd) = a - wd := IntWalk.i64_in _ (by omega)
    by_cases k3 : a - wd < n
    · have HR : Hid (combM ⟨8, n, wd⟩ a 0 0 = (0, 10)) := Lib.hid (by simp [combM, k, k3])
      clear hv
      go_enter Tryz.func80, Tryz.ntmps80
      go_upto_region 1 with fail
      rw [← hW]
      clear hW
      go_wp2
      go_quiet (fail)
      go_wp2
      go_ret2
      exact ⟨ret_pp HR.out, below_step HW.out (by first | exact HB | exact below_drewN HB _)⟩
    · have HR : Hid (combM ⟨8, n, wd⟩ a 0 0 = (wd, 0)) := Lib.hid (by simp [combM, k, k3, hv])
      clear hv
      go_enter Tryz.func80, Tryz.ntmps80
      go_upto_region 1 with fail
      rw [← hW]
      clear hW
      go_wp2
      go_quiet (fail)
      go_wp2
      go_ret2
      exact ⟨ret_pp HR.out, below_step HW.out (by first | exact HB | exact below_drewN HB _)⟩
set_option maxRecDepth 100000 in
set_option maxHeartbeats 4000000 in
theorem roper2_any (op n wd a b : Int) (A : Option Addr) (c : Nat) (w : World) (hop : 9 ≤ op ∧ op ≤ 16) (ha : 0 ≤ a ∧ a ≤ 32) (hb : 0 ≤ b ∧ b ≤ 32) (hok : LOk w 1 icell ⟨[a, b], A, c⟩) :
    Calls Tryz.prog 80 #[.agg #[.int .i64 op, .int .i64 n, .int .i64 wd], .slice A 2 c] w fun e w' =>
      e = .returned (.tuple #[.int .i64 (combM ⟨op, n, wd⟩ a b 0).1, .int .i64 (combM ⟨op, n, wd⟩ a b 0).2]) ∧ Below w.heap.size w w' := by
  obtain ⟨W, hW, hw, HB, hp⟩ := box1 w #[.int .i64 op, .int .i64 n, .int .i64 wd] 65
  have HW := Lib.hid hw
  obtain ⟨g, o, rfl, hq⟩ := ints2 (hok.below hw (Nat.le_refl _))
  clear hok hw
  have hq0 := hq _ HB
  have hp0 := hp _ HB
  obtain ⟨ha1, ha2⟩ := ha
  obtain ⟨hb1, hb2⟩ := hb
  have hd : op = 14 ∨ (op = 9 ∨ op = 10 ∨ op = 11 ∨ op = 12 ∨ op = 13) ∨ op = 15 ∨ op = 16 := by omega
  clear hop
  rcases hd with rfl | h | h
  · have HR : Hid (combM ⟨14, n, wd⟩ a b 0 = wideM (a + b)) := Lib.hid (by simp [combM])
    have hwr : IntKind.i64.wrap (a + b) = a + b := IntWalk.i64_in _ (by omega)
    have H0 := Lib.hid HB
    clear HB hq0 hp0
    go_enter Tryz.func80, Tryz.ntmps80
    go_upto_region 1 with fail
    rw [← hW]
    clear hW
    have hp0 := hp _ H0.out
    go_upto_region 16 with fail
    clear hp0
    go_region_held3 (fun w' => Below W.heap.size W w') (first | exact H0.out | exact below_drew H0.out | (exact below_step (by assumption) (by assumption)) | assumption)
      (first | (go_at_call 105; refine (rwide_any (a + b) _).mono ?_; rintro e w1 ⟨rfl, rfl⟩))
    have HB5 : Hid (Below W.heap.size W _) := Lib.hid (by assumption)
    go_wp2
    go_ret2
    exact ⟨ret_pp HR.out, below_step HW.out HB5.out⟩
  · have ho : arityM op = 2 := by unfold arityM; repeat' split <;> omega
    have h' : op ≠ 6 ∧ op ≠ 7 ∧ op ≠ 8 ∧ op ≠ 14 ∧ op ≠ 17 ∧ op ≠ 15 ∧ op ≠ 16 := by omega
    obtain ⟨n6, n7, n8, n14, n17, n15, n16⟩ := h'
    by_cases k : a = b
    · have HR : Hid (combM ⟨op, n, wd⟩ a b 0 = (a, 0)) := Lib.hid (by simp [combM, n6, n7, n8, n14, n17, n15, n16, k])
      clear n6 n7 n8 n14 n17 n15 n16 ho
      subst k
      rcases h with rfl | rfl | rfl | rfl | rfl
      all_goals
        go_enter Tryz.func80, Tryz.ntmps80
        go_upto_region 1 with fail
        rw [← hW]
        clear hW
        go_wp2
        go_quiet (fail)
        go_wp2
        go_ret2
        exact ⟨ret_pp HR.out, below_step HW.out (by first | exact HB | exact below_drewN HB _)⟩
    · have HR : Hid (combM ⟨op, n, wd⟩ a b 0 = (0, 10)) := Lib.hid (by simp [combM, n6, n7, n8, n14, n17, ho, k])
      have k' : (a == b) = false := beq_eq_false_iff_ne.2 k
      clear n6 n7 n8 n14 n17 n15 n16 ho
      rcases h with rfl | rfl | rfl | rfl | rfl
      all_goals
        go_enter Tryz.func80, Tryz.ntmps80
        go_upto_region 1 with fail
        rw [← hW]
        clear hW
        go_wp2
        go_quiet (fail)
        go_wp2
        go_ret2
        exact ⟨ret_pp HR.out, below_step HW.out (by first | exact HB | exact below_drewN HB _)⟩
  · have ho : arityM op = 2 := by unfold arityM; repeat' split <;> omega
    have h' : op ≠ 6 ∧ op ≠ 7 ∧ op ≠ 8 ∧ op ≠ 14 ∧ op ≠ 17 := by omega
    obtain ⟨n6, n7, n8, n14, n17⟩ := h'
    by_cases k : a = b
    · have HR : Hid (combM ⟨op, n, wd⟩ a b 0 = (1, 0)) := Lib.hid (by simp [combM, n6, n7, n8, n14, n17, h, k])
      clear n6 n7 n8 n14 n17 ho
      subst k
      rcases h with rfl | rfl
      all_goals
        go_enter Tryz.func80, Tryz.ntmps80
        go_upto_region 1 with fail
        rw [← hW]
        clear hW
        go_wp2
        go_quiet (fail)
        go_wp2
        go_ret2
        exact ⟨ret_pp HR.out, below_step HW.out (by first | exact HB | exact below_drewN HB _)⟩
    · have HR : Hid (combM ⟨op, n, wd⟩ a b 0 = (0, 10)) := Lib.hid (by simp [combM, n6, n7, n8, n14, n17, ho, k])
      have k' : (a == b) = false := beq_eq_false_iff_ne.2 k
      clear n6 n7 n8 n14 n17 ho
      rcases h with rfl | rfl
      all_goals
        go_enter Tryz.func80, Tryz.ntmps80
        go_upto_region 1 with fail
        rw [← hW]
        clear hW
        go_wp2
        go_quiet (fail)
        go_wp2
        go_ret2
        exact ⟨ret_pp HR.out, below_step HW.out (by first | exact HB | exact below_drewN HB _)⟩
set_option maxRecDepth 100000 in
set_option maxHeartbeats 4000000 in
theorem roper3_any (op n wd a b d : Int) (A : Option Addr) (c : Nat) (w : World) (hop : op = 17) (ha : 0 ≤ a ∧ a ≤ 32) (hb : 0 ≤ b ∧ b ≤ 32) (hd : 0 ≤ d ∧ d ≤ 32) (hok : LOk w 1 icell ⟨[a, b, d], A, c⟩) :
    Calls Tryz.prog 80 #[.agg #[.int .i64 op, .int .i64 n, .int .i64 wd], .slice A 3 c] w fun e w' =>
      e = .returned (.tuple #[.int .i64 (combM ⟨op, n, wd⟩ a b d).1, .int .i64 (combM ⟨op, n, wd⟩ a b d).2]) ∧ Below w.heap.size w w' := by
  obtain ⟨W, hW, hw, HB, hp⟩ := box1 w #[.int .i64 op, .int .i64 n, .int .i64 wd] 65
  have HW := Lib.hid hw
  obtain ⟨g, o, rfl, hq⟩ := ints3 (hok.below hw (Nat.le_refl _))
  clear hok hw
  have hq0 := hq _ HB
  have hp0 := hp _ HB
  obtain ⟨ha1, ha2⟩ := ha
  obtain ⟨hb1, hb2⟩ := hb
  obtain ⟨hd1, hd2⟩ := hd
  subst hop
  by_cases k : a = 1
  · by_cases k2 : b = d
    · have HR : Hid (combM ⟨17, n, wd⟩ a b d = (b, 0)) := Lib.hid (by simp [combM, k, k2])
      subst k k2
      go_enter Tryz.func80, Tryz.ntmps80
      go_upto_region 1 with fail
      rw [← hW]
      clear hW
      go_wp2
      go_quiet (fail)
      go_wp2
      go_ret2
      exact ⟨ret_pp HR.out, below_step HW.out (by first | exact HB | exact below_drewN HB _)⟩
    · have HR : Hid (combM ⟨17, n, wd⟩ a b d = (0, 10)) := Lib.hid (by simp [combM, k, k2])
      have k2' : (b == d) = false := beq_eq_false_iff_ne.2 k2
      subst k
      go_enter Tryz.func80, Tryz.ntmps80
      go_upto_region 1 with fail
      rw [← hW]
      clear hW
      go_wp2
      go_quiet (fail)
      go_wp2
      go_ret2
      exact ⟨ret_pp HR.out, below_step HW.out (by first | exact HB | exact below_drewN HB _)⟩
  · have HR : Hid (combM ⟨17, n, wd⟩ a b d = (0, 10)) := Lib.hid (by simp [combM, k])
    have k' : (a == 1) = false := beq_eq_false_iff_ne.2 k
    go_enter Tryz.func80, Tryz.ntmps80
    go_upto_region 1 with fail
    rw [← hW]
    clear hW
    go_wp2
    go_quiet (fail)
    go_wp2
    go_ret2
    exact ⟨ret_pp HR.out, below_step HW.out (by first | exact HB | exact below_drewN HB _)⟩
end Go.Proofs.YtpomjcndeanjgaaGreatDoor
namespace Go.Proofs.YtpomjcndeanjgaaGreatDoor
open Go.RowKit
theorem ret_i3 {a b c a' b' c' : Int} (h1 : a = a') (h2 : b = b') (h3 : c = c') : Ending.returned (.tuple #[.int .i64 a, .int .i64 b, .int .i64 c]) = .returned (.tuple #[.int .i64 a', .int .i64 b', .int .i64 c']) := by rw [h1, h2, h3]
set_option maxRecDepth 100000 in
set_option maxHeartbeats 16000000 in
theorem rchk_any (p : ProgD) (ps : L FieldD) (x : L NodeD) (hle : x.l.length ≤ 24) : ∀ (m i : Nat) (w : World), x.l.length < i + m → i ≤ x.l.length → ProgOk w p → LOk w 2 FieldD.cells ps → LOk w 3 NodeD.cells x →
    Calls Tryz.prog 39 #[.slice x.A x.l.length x.c, .int .i64 i, .agg (scopeCells p ps)] w fun e w' =>
      ∃ t : Int, e = .returned (.tuple #[.int .i64 (chkM p ps.l x.l m i).1, .int .i64 t, .int .i64 (chkM p ps.l x.l m i).2.2]) ∧ ((chkM p ps.l x.l m i).2.2 = 0 → t = ((chkM p ps.l x.l m i).2.1 : Int)) ∧ Below w.heap.size w w'
  | 0, i, w, h1, h2, _, _, _ => absurd h1 (by omega)
  | m + 1, i, w, h1, h2, o, hps, hx => by
    have IH := Lib.hid (rchk_any p ps x hle m)
    have HO := Lib.hid o
    have HP := Lib.hid hps
    have HX := Lib.hid hx
    have HC := Lib.hid (chkM.eq_2 p ps.l x.l i m)
    obtain ⟨i0, hi, hz0, hz1, hz2⟩ := info_parts (show (Tryz.prog.info? 3).map (fun i => (i.zero, i.size, i.bytes)) = some (some (.int .i64 0), 1, 8) by kernel_rfl)
    clear o hps hx
    obtain ⟨W, hW, hw, HB, hp⟩ := box1 w (scopeCells p ps) 44
    have HW := Lib.hid hw
    clear hw
    by_cases k0 : i < x.l.length
    case neg =>
      have HR : Hid (chkM p ps.l x.l (m + 1) i = (0, 0, 3)) := Lib.hid (by rw [HC.out, List.getElem?_eq_none (by omega)])
      have k0' : (x.l.length : Int) ≤ (i : Int) := by omega
      go_enter Tryz.func39, Tryz.ntmps39
      go_upto_region 1 with fail
      rw [← hW]
      clear hW
      go_wp2
      go_ret3
      exact ⟨_, ret_i3 (by rw [HR.out]) rfl (by rw [HR.out]), (by rw [HR.out]; intro h; cases h), below_step HW.out HB⟩
    case pos =>
      have HC2 := Lib.hid (show chkM p ps.l x.l (m + 1) i = _ by rw [HC.out, List.getElem?_eq_getElem k0])
      simp only at HC2
      obtain ⟨g, of, hA, hq⟩ := NodeD.atA (HX.out.below HW.out (Nat.le_refl _)) k0
      clear HC
      generalize x.l[i] = y at *
      obtain ⟨op, n, wd⟩ := y
      simp only at hq HC2
      simp only [hA]
      have IH2 : Hid (∀ (j : Nat) (w' : World), i < j → j ≤ x.l.length → Below W.heap.size W w' →
          Calls Tryz.prog 39 #[.slice (some ⟨g, of, none⟩) x.l.length x.c, .int .i64 j, .agg (scopeCells p ps)] w' fun e w2 =>
            ∃ t : Int, e = .returned (.tuple #[.int .i64 (chkM p ps.l x.l m j).1, .int .i64 t, .int .i64 (chkM p ps.l x.l m j).2.2]) ∧ ((chkM p ps.l x.l m j).2.2 = 0 → t = ((chkM p ps.l x.l m j).2.1 : Int)) ∧ Below w'.heap.size w' w2) :=
        Lib.hid (by
          intro j w' h3 h4 hb
          have := IH.out j w' (by omega) h4 (HO.out.below (below_step HW.out hb)) (HP.out.below (below_step HW.out hb) (Nat.le_refl _)) (HX.out.below (below_step HW.out hb) (Nat.le_refl _))
          rw [hA] at this
          exact this)
      have hn1 : (i : Int) < (x.l.length : Int) := by omega
      have hn2 : (i : Int) + 1 ≤ (x.l.length : Int) := by omega
      clear IH h1 h2 hA
      have hk := arityM_cases op
      have hp0 := hp _ HB
      have hq0 := hq _ HB
      go_enter Tryz.func39, Tryz.ntmps39
      go_upto_region 1 with fail
      rw [← hW]
      clear hW
      go_wp2_with fail
      refine (rarity_any op _).mono ?_
      rintro e w' ⟨rfl, rfl⟩
      generalize hko : arityM op = ko at *
      rcases hk with rfl | rfl | ⟨rfl, o1, o2⟩ | ⟨rfl, o1, o2⟩ | ⟨rfl, o1, o2⟩
      · have HR : Hid (chkM p ps.l x.l (m + 1) i = (0, 0, 11)) := Lib.hid (by rw [HC2.out]; rfl)
        go_wp2
        go_ret3
        exact ⟨_, ret_i3 (by rw [HR.out]) rfl (by rw [HR.out]), (by rw [HR.out]; intro h; cases h), below_step HW.out HB⟩
      · have HR : Hid (chkM p ps.l x.l (m + 1) i = ((primM p ps.l ⟨op, n, wd⟩).1, i + 1, (primM p ps.l ⟨op, n, wd⟩).2)) := Lib.hid (by rw [HC2.out]; rfl)
        have H0 := Lib.hid HB
        clear HB
        go_wp2
        clear hp0 hq0
        go_region_held3 (fun w' => Below W.heap.size W w') (first | exact H0.out | exact below_drew H0.out | (exact below_step (by assumption) (by assumption)) | assumption)
          (first | (go_at_call 79; refine (rleaf_any p ps op n wd _ (HO.out.below (below_step HW.out (by assumption))) (HP.out.below (below_step HW.out (by assumption)) (Nat.le_refl _))).mono ?_; rintro e w1 ⟨rfl, hb1⟩))
        have HB5 : Hid (Below W.heap.size W _) := Lib.hid (by assumption)
        have HB := HB5.out
        go_wp2
        go_ret3
        exact ⟨_, ret_i3 (by rw [HR.out]) rfl (by rw [HR.out]), (by rw [HR.out]; intro _; simp only; omega), below_step HW.out HB⟩
      · have hopk : 5 ≤ op ∧ op ≤ 8 := by
          unfold arityM at hko
          repeat' split at hko
          all_goals omega
        have HOPK := Lib.hid hopk
        clear hopk o1 o2
        clear hp0 hq0
        have HOw : Hid (W.ownsRow W.heap.size 3 1 (.slice none 0 0) 0 (ints [])) := Lib.hid (World.ownsRow_nil _ _ _ _)
        have hp0 := hp _ HB
        have hq0 := hq _ HB
        go_wp2
        refine wp_loop_rounds 2 ?_
        rw [rounds_succ]
        have f1 := chkM_fine p ps.l x.l m (i + 1)
        go_wp2_with fail
        have hI := IH2.out (i + 1) _ (by omega) (by omega) HB
        rw [show ((i + 1 : Nat) : Int) = (i : Int) + 1 by omega] at hI
        refine hI.mono ?_
        clear hI
        rintro e v1 ⟨z1, rfl, hz1, hbN⟩
        replace HOw := Lib.hid (own_below HOw.out hbN)
        replace HB := below_step HB hbN
        clear hbN hp0 hq0
        generalize hr1 : chkM p ps.l x.l m (i + 1) = r1 at *
        obtain ⟨a1, t1, c1⟩ := r1
        simp only at f1 hz1
        have hp0 := hp _ HB
        have hq0 := hq _ HB
        by_cases kc : c1 = 0
        case neg =>
          have HR : Hid (chkM p ps.l x.l (m + 1) i = (0, 0, c1)) := Lib.hid (by rw [HC2.out]; simp [kc])
          have kc' : (c1 == 0) = false := beq_eq_false_iff_ne.2 kc
          have KC := Lib.hid kc
          clear kc
          go_wp2
          go_ret3
          exact ⟨_, ret_i3 (by rw [HR.out]) rfl (by rw [HR.out]), (by rw [HR.out]; intro h; exact absurd h KC.out), below_step HW.out HB⟩
        subst kc
        obtain ⟨p11, p12, p13, p14⟩ := f1 rfl
        obtain rfl := hz1 rfl
        clear f1 hz1
        have HBH := Lib.hid HB
        have hsz := HB.size
        go_wp2_with (first
          | (at_builtin; refine wpList_append_own _ rfl _ _ 29 rfl W.heap.size 3 i0 _ 1 8 Tryz.underlying29 hi hz0 hz1 hz2 rfl (by decide) _ 0 (ints []) rfl (HOw.out.alloc _) ⟨v1.heap.size, 0, none⟩ 1 1 [.int .i64 a1] rfl rfl ?c1 ?c2 ?c3 ?c4 ?c5 ?_))
        case c1 =>
          intro j v hj
          match j, hj with
          | 0, hj => simp at hj; subst hj; simp [Addr.add]
        case c2 => intro u hu; simp at hu; subst hu; rfl
        case c3 => unfold maxLen; omega
        case c4 => omega
        case c5 => simp; omega
        intro s1 y1 hown2 hgrow _
        have hb2 := below_alloc HBH.out (.cells #[.int .i64 a1] 3)
        have HB2 : Below W.heap.size W y1 := hb2.grown hgrow hb2.size fun j hj => (HOw.out.lt j hj).1
        obtain ⟨A1, q1, rfl⟩ : ∃ A' c', s1 = .slice A' 1 c' := by
          rcases hown2.2 with ⟨hv, h0⟩ | ⟨g', cap, cur, hv, _, _, _⟩
          · omega
          · exact ⟨_, _, hv⟩
        replace HOw := Lib.hid (show y1.ownsRow W.heap.size 3 1 (.slice A1 1 q1) 1 (ints [a1]) from hown2)
        replace HB := HB2
        clear hb2 HB2 HBH hsz hp0 hq0 hown2 hgrow
        have hp0 := hp _ HB
        have hq0 := hq _ HB
        go_wp2
        rw [rounds_succ]
        have HR : Hid (chkM p ps.l x.l (m + 1) i = ((combM ⟨op, n, wd⟩ a1 0 0).1, t1, (combM ⟨op, n, wd⟩ a1 0 0).2)) := Lib.hid (by rw [HC2.out]; simp)
        have HL := Lib.hid (own_lok (l := [a1]) HOw.out (by simp [maxLen]))
        go_wp2_with fail
        refine (roper1_any op n wd a1 A1 q1 _ HOPK.out (by omega) HL.out).mono ?_
        rintro e u ⟨rfl, hbN⟩
        replace HB := below_step HB hbN
        clear hbN hp0 hq0
        go_wp2
        go_ret3
        exact ⟨_, ret_i3 (by rw [HR.out]) rfl (by rw [HR.out]), (by rw [HR.out]; intro _; rfl), below_step HW.out HB⟩
      · have hopk : 9 ≤ op ∧ op ≤ 16 := by
          unfold arityM at hko
          repeat' split at hko
          all_goals omega
        have HOPK := Lib.hid hopk
        clear hopk o1 o2
        clear hp0 hq0
        have HOw : Hid (W.ownsRow W.heap.size 3 1 (.slice none 0 0) 0 (ints [])) := Lib.hid (World.ownsRow_nil _ _ _ _)
        have hp0 := hp _ HB
        have hq0 := hq _ HB
        go_wp2
        refine wp_loop_rounds 3 ?_
        rw [rounds_succ]
        have f1 := chkM_fine p ps.l x.l m (i + 1)
        go_wp2_with fail
        have hI := IH2.out (i + 1) _ (by omega) (by omega) HB
        rw [show ((i + 1 : Nat) : Int) = (i : Int) + 1 by omega] at hI
        refine hI.mono ?_
        clear hI
        rintro e v1 ⟨z1, rfl, hz1, hbN⟩
        replace HOw := Lib.hid (own_below HOw.out hbN)
        replace HB := below_step HB hbN
        clear hbN hp0 hq0
        generalize hr1 : chkM p ps.l x.l m (i + 1) = r1 at *
        obtain ⟨a1, t1, c1⟩ := r1
        simp only at f1 hz1
        have hp0 := hp _ HB
        have hq0 := hq _ HB
        by_cases kc : c1 = 0
        case neg =>
          have HR : Hid (chkM p ps.l x.l (m + 1) i = (0, 0, c1)) := Lib.hid (by rw [HC2.out]; simp [kc])
          have kc' : (c1 == 0) = false := beq_eq_false_iff_ne.2 kc
          have KC := Lib.hid kc
          clear kc
          go_wp2
          go_ret3
          exact ⟨_, ret_i3 (by rw [HR.out]) rfl (by rw [HR.out]), (by rw [HR.out]; intro h; exact absurd h KC.out), below_step HW.out HB⟩
        subst kc
        obtain ⟨p11, p12, p13, p14⟩ := f1 rfl
        obtain rfl := hz1 rfl
        clear f1 hz1
        have HBH := Lib.hid HB
        have hsz := HB.size
        go_wp2_with (first
          | (at_builtin; refine wpList_append_own _ rfl _ _ 29 rfl W.heap.size 3 i0 _ 1 8 Tryz.underlying29 hi hz0 hz1 hz2 rfl (by decide) _ 0 (ints []) rfl (HOw.out.alloc _) ⟨v1.heap.size, 0, none⟩ 1 1 [.int .i64 a1] rfl rfl ?c1 ?c2 ?c3 ?c4 ?c5 ?_))
        case c1 =>
          intro j v hj
          match j, hj with
          | 0, hj => simp at hj; subst hj; simp [Addr.add]
        case c2 => intro u hu; simp at hu; subst hu; rfl
        case c3 => unfold maxLen; omega
        case c4 => omega
        case c5 => simp; omega
        intro s1 y1 hown2 hgrow _
        have hb2 := below_alloc HBH.out (.cells #[.int .i64 a1] 3)
        have HB2 : Below W.heap.size W y1 := hb2.grown hgrow hb2.size fun j hj => (HOw.out.lt j hj).1
        obtain ⟨A1, q1, rfl⟩ : ∃ A' c', s1 = .slice A' 1 c' := by
          rcases hown2.2 with ⟨hv, h0⟩ | ⟨g', cap, cur, hv, _, _, _⟩
          · omega
          · exact ⟨_, _, hv⟩
        replace HOw := Lib.hid (show y1.ownsRow W.heap.size 3 1 (.slice A1 1 q1) 1 (ints [a1]) from hown2)
        replace HB := HB2
        clear hb2 HB2 HBH hsz hp0 hq0 hown2 hgrow
        have hp0 := hp _ HB
        have hq0 := hq _ HB
        go_wp2
        rw [rounds_succ]
        have f2 := chkM_fine p ps.l x.l m t1
        go_wp2_with fail
        have hI := IH2.out t1 _ (by omega) (by omega) HB
        refine hI.mono ?_
        clear hI
        rintro e v2 ⟨z2, rfl, hz2, hbN⟩
        replace HOw := Lib.hid (own_below HOw.out hbN)
        replace HB := below_step HB hbN
        clear hbN hp0 hq0
        generalize hr2 : chkM p ps.l x.l m t1 = r2 at *
        obtain ⟨a2, t2, c2⟩ := r2
        simp only at f2 hz2
        have hp0 := hp _ HB
        have hq0 := hq _ HB
        by_cases kc : c2 = 0
        case neg =>
          have HR : Hid (chkM p ps.l x.l (m + 1) i = (0, 0, c2)) := Lib.hid (by rw [HC2.out]; simp [kc])
          have kc' : (c2 == 0) = false := beq_eq_false_iff_ne.2 kc
          have KC := Lib.hid kc
          clear kc
          go_wp2
          go_ret3
          exact ⟨_, ret_i3 (by rw [HR.out]) rfl (by rw [HR.out]), (by rw [HR.out]; intro h; exact absurd h KC.out), below_step HW.out HB⟩
        subst kc
        obtain ⟨p21, p22, p23, p24⟩ := f2 rfl
        obtain rfl := hz2 rfl
        clear f2 hz2
        have HBH := Lib.hid HB
        have hsz := HB.size
        go_wp2_with (first
          | (at_builtin; refine wpList_append_own _ rfl _ _ 29 rfl W.heap.size 3 i0 _ 1 8 Tryz.underlying29 hi hz0 hz1 hz2 rfl (by decide) _ 1 (ints [a1]) rfl (HOw.out.alloc _) ⟨v2.heap.size, 0, none⟩ 1 1 [.int .i64 a2] rfl rfl ?c1 ?c2 ?c3 ?c4 ?c5 ?_))
        case c1 =>
          intro j v hj
          match j, hj with
          | 0, hj => simp at hj; subst hj; simp [Addr.add]
        case c2 => intro u hu; simp at hu; subst hu; rfl
        case c3 => unfold maxLen; omega
        case c4 => omega
        case c5 => simp; omega
        intro s2 y2 hown2 hgrow _
        have hb2 := below_alloc HBH.out (.cells #[.int .i64 a2] 3)
        have HB2 : Below W.heap.size W y2 := hb2.grown hgrow hb2.size fun j hj => (HOw.out.lt j hj).1
        obtain ⟨A2, q2, rfl⟩ : ∃ A' c', s2 = .slice A' 2 c' := by
          rcases hown2.2 with ⟨hv, h0⟩ | ⟨g', cap, cur, hv, _, _, _⟩
          · omega
          · exact ⟨_, _, hv⟩
        replace HOw := Lib.hid (show y2.ownsRow W.heap.size 3 1 (.slice A2 2 q2) 2 (ints [a1, a2]) from hown2)
        replace HB := HB2
        clear hb2 HB2 HBH hsz hp0 hq0 hown2 hgrow
        have hp0 := hp _ HB
        have hq0 := hq _ HB
        go_wp2
        rw [rounds_succ]
        have HR : Hid (chkM p ps.l x.l (m + 1) i = ((combM ⟨op, n, wd⟩ a1 a2 0).1, t2, (combM ⟨op, n, wd⟩ a1 a2 0).2)) := Lib.hid (by rw [HC2.out]; simp)
        have HL := Lib.hid (own_lok (l := [a1, a2]) HOw.out (by simp [maxLen]))
        go_wp2_with fail
        refine (roper2_any op n wd a1 a2 A2 q2 _ HOPK.out (by omega) (by omega) HL.out).mono ?_
        rintro e u ⟨rfl, hbN⟩
        replace HB := below_step HB hbN
        clear hbN hp0 hq0
        go_wp2
        go_ret3
        exact ⟨_, ret_i3 (by rw [HR.out]) rfl (by rw [HR.out]), (by rw [HR.out]; intro _; rfl), below_step HW.out HB⟩
      · have hopk : op = 17 := by
          unfold arityM at hko
          repeat' split at hko
          all_goals omega
        have HOPK := Lib.hid hopk
        clear hopk o1 o2
        clear hp0 hq0
        have HOw : Hid (W.ownsRow W.heap.size 3 1 (.slice none 0 0) 0 (ints [])) := Lib.hid (World.ownsRow_nil _ _ _ _)
        have hp0 := hp _ HB
        have hq0 := hq _ HB
        go_wp2
        refine wp_loop_rounds 4 ?_
        rw [rounds_succ]
        have f1 := chkM_fine p ps.l x.l m (i + 1)
        go_wp2_with fail
        have hI := IH2.out (i + 1) _ (by omega) (by omega) HB
        rw [show ((i + 1 : Nat) : Int) = (i : Int) + 1 by omega] at hI
        refine hI.mono ?_
        clear hI
        rintro e v1 ⟨z1, rfl, hz1, hbN⟩
        replace HOw := Lib.hid (own_below HOw.out hbN)
        replace HB := below_step HB hbN
        clear hbN hp0 hq0
        generalize hr1 : chkM p ps.l x.l m (i + 1) = r1 at *
        obtain ⟨a1, t1, c1⟩ := r1
        simp only at f1 hz1
        have hp0 := hp _ HB
        have hq0 := hq _ HB
        by_cases kc : c1 = 0
        case neg =>
          have HR : Hid (chkM p ps.l x.l (m + 1) i = (0, 0, c1)) := Lib.hid (by rw [HC2.out]; simp [kc])
          have kc' : (c1 == 0) = false := beq_eq_false_iff_ne.2 kc
          have KC := Lib.hid kc
          clear kc
          go_wp2
          go_ret3
          exact ⟨_, ret_i3 (by rw [HR.out]) rfl (by rw [HR.out]), (by rw [HR.out]; intro h; exact absurd h KC.out), below_step HW.out HB⟩
        subst kc
        obtain ⟨p11, p12, p13, p14⟩ := f1 rfl
        obtain rfl := hz1 rfl
        clear f1 hz1
        have HBH := Lib.hid HB
        have hsz := HB.size
        go_wp2_with (first
          | (at_builtin; refine wpList_append_own _ rfl _ _ 29 rfl W.heap.size 3 i0 _ 1 8 Tryz.underlying29 hi hz0 hz1 hz2 rfl (by decide) _ 0 (ints []) rfl (HOw.out.alloc _) ⟨v1.heap.size, 0, none⟩ 1 1 [.int .i64 a1] rfl rfl ?c1 ?c2 ?c3 ?c4 ?c5 ?_))
        case c1 =>
          intro j v hj
          match j, hj with
          | 0, hj => simp at hj; subst hj; simp [Addr.add]
        case c2 => intro u hu; simp at hu; subst hu; rfl
        case c3 => unfold maxLen; omega
        case c4 => omega
        case c5 => simp; omega
        intro s1 y1 hown2 hgrow _
        have hb2 := below_alloc HBH.out (.cells #[.int .i64 a1] 3)
        have HB2 : Below W.heap.size W y1 := hb2.grown hgrow hb2.size fun j hj => (HOw.out.lt j hj).1
        obtain ⟨A1, q1, rfl⟩ : ∃ A' c', s1 = .slice A' 1 c' := by
          rcases hown2.2 with ⟨hv, h0⟩ | ⟨g', cap, cur, hv, _, _, _⟩
          · omega
          · exact ⟨_, _, hv⟩
        replace HOw := Lib.hid (show y1.ownsRow W.heap.size 3 1 (.slice A1 1 q1) 1 (ints [a1]) from hown2)
        replace HB := HB2
        clear hb2 HB2 HBH hsz hp0 hq0 hown2 hgrow
        have hp0 := hp _ HB
        have hq0 := hq _ HB
        go_wp2
        rw [rounds_succ]
        have f2 := chkM_fine p ps.l x.l m t1
        go_wp2_with fail
        have hI := IH2.out t1 _ (by omega) (by omega) HB
        refine hI.mono ?_
        clear hI
        rintro e v2 ⟨z2, rfl, hz2, hbN⟩
        replace HOw := Lib.hid (own_below HOw.out hbN)
        replace HB := below_step HB hbN
        clear hbN hp0 hq0
        generalize hr2 : chkM p ps.l x.l m t1 = r2 at *
        obtain ⟨a2, t2, c2⟩ := r2
        simp only at f2 hz2
        have hp0 := hp _ HB
        have hq0 := hq _ HB
        by_cases kc : c2 = 0
        case neg =>
          have HR : Hid (chkM p ps.l x.l (m + 1) i = (0, 0, c2)) := Lib.hid (by rw [HC2.out]; simp [kc])
          have kc' : (c2 == 0) = false := beq_eq_false_iff_ne.2 kc
          have KC := Lib.hid kc
          clear kc
          go_wp2
          go_ret3
          exact ⟨_, ret_i3 (by rw [HR.out]) rfl (by rw [HR.out]), (by rw [HR.out]; intro h; exact absurd h KC.out), below_step HW.out HB⟩
        subst kc
        obtain ⟨p21, p22, p23, p24⟩ := f2 rfl
        obtain rfl := hz2 rfl
        clear f2 hz2
        have HBH := Lib.hid HB
        have hsz := HB.size
        go_wp2_with (first
          | (at_builtin; refine wpList_append_own _ rfl _ _ 29 rfl W.heap.size 3 i0 _ 1 8 Tryz.underlying29 hi hz0 hz1 hz2 rfl (by decide) _ 1 (ints [a1]) rfl (HOw.out.alloc _) ⟨v2.heap.size, 0, none⟩ 1 1 [.int .i64 a2] rfl rfl ?c1 ?c2 ?c3 ?c4 ?c5 ?_))
        case c1 =>
          intro j v hj
          match j, hj with
          | 0, hj => simp at hj; subst hj; simp [Addr.add]
        case c2 => intro u hu; simp at hu; subst hu; rfl
        case c3 => unfold maxLen; omega
        case c4 => omega
        case c5 => simp; omega
        intro s2 y2 hown2 hgrow _
        have hb2 := below_alloc HBH.out (.cells #[.int .i64 a2] 3)
        have HB2 : Below W.heap.size W y2 := hb2.grown hgrow hb2.size fun j hj => (HOw.out.lt j hj).1
        obtain ⟨A2, q2, rfl⟩ : ∃ A' c', s2 = .slice A' 2 c' := by
          rcases hown2.2 with ⟨hv, h0⟩ | ⟨g', cap, cur, hv, _, _, _⟩
          · omega
          · exact ⟨_, _, hv⟩
        replace HOw := Lib.hid (show y2.ownsRow W.heap.size 3 1 (.slice A2 2 q2) 2 (ints [a1, a2]) from hown2)
        replace HB := HB2
        clear hb2 HB2 HBH hsz hp0 hq0 hown2 hgrow
        have hp0 := hp _ HB
        have hq0 := hq _ HB
        go_wp2
        rw [rounds_succ]
        have f3 := chkM_fine p ps.l x.l m t2
        go_wp2_with fail
        have hI := IH2.out t2 _ (by omega) (by omega) HB
        refine hI.mono ?_
        clear hI
        rintro e v3 ⟨z3, rfl, hz3, hbN⟩
        replace HOw := Lib.hid (own_below HOw.out hbN)
        replace HB := below_step HB hbN
        clear hbN hp0 hq0
        generalize hr3 : chkM p ps.l x.l m t2 = r3 at *
        obtain ⟨a3, t3, c3⟩ := r3
        simp only at f3 hz3
        have hp0 := hp _ HB
        have hq0 := hq _ HB
        by_cases kc : c3 = 0
        case neg =>
          have HR : Hid (chkM p ps.l x.l (m + 1) i = (0, 0, c3)) := Lib.hid (by rw [HC2.out]; simp [kc])
          have kc' : (c3 == 0) = false := beq_eq_false_iff_ne.2 kc
          have KC := Lib.hid kc
          clear kc
          go_wp2
          go_ret3
          exact ⟨_, ret_i3 (by rw [HR.out]) rfl (by rw [HR.out]), (by rw [HR.out]; intro h; exact absurd h KC.out), below_step HW.out HB⟩
        subst kc
        obtain ⟨p31, p32, p33, p34⟩ := f3 rfl
        obtain rfl := hz3 rfl
        clear f3 hz3
        have HBH := Lib.hid HB
        have hsz := HB.size
        go_wp2_with (first
          | (at_builtin; refine wpList_append_own _ rfl _ _ 29 rfl W.heap.size 3 i0 _ 1 8 Tryz.underlying29 hi hz0 hz1 hz2 rfl (by decide) _ 2 (ints [a1, a2]) rfl (HOw.out.alloc _) ⟨v3.heap.size, 0, none⟩ 1 1 [.int .i64 a3] rfl rfl ?c1 ?c2 ?c3 ?c4 ?c5 ?_))
        case c1 =>
          intro j v hj
          match j, hj with
          | 0, hj => simp at hj; subst hj; simp [Addr.add]
        case c2 => intro u hu; simp at hu; subst hu; rfl
        case c3 => unfold maxLen; omega
        case c4 => omega
        case c5 => simp; omega
        intro s3 y3 hown2 hgrow _
        have hb2 := below_alloc HBH.out (.cells #[.int .i64 a3] 3)
        have HB2 : Below W.heap.size W y3 := hb2.grown hgrow hb2.size fun j hj => (HOw.out.lt j hj).1
        obtain ⟨A3, q3, rfl⟩ : ∃ A' c', s3 = .slice A' 3 c' := by
          rcases hown2.2 with ⟨hv, h0⟩ | ⟨g', cap, cur, hv, _, _, _⟩
          · omega
          · exact ⟨_, _, hv⟩
        replace HOw := Lib.hid (show y3.ownsRow W.heap.size 3 1 (.slice A3 3 q3) 3 (ints [a1, a2, a3]) from hown2)
        replace HB := HB2
        clear hb2 HB2 HBH hsz hp0 hq0 hown2 hgrow
        have hp0 := hp _ HB
        have hq0 := hq _ HB
        go_wp2
        rw [rounds_succ]
        have HR : Hid (chkM p ps.l x.l (m + 1) i = ((combM ⟨op, n, wd⟩ a1 a2 a3).1, t3, (combM ⟨op, n, wd⟩ a1 a2 a3).2)) := Lib.hid (by rw [HC2.out]; simp)
        have HL := Lib.hid (own_lok (l := [a1, a2, a3]) HOw.out (by simp [maxLen]))
        go_wp2_with fail
        refine (roper3_any op n wd a1 a2 a3 A3 q3 _ HOPK.out (by omega) (by omega) (by omega) HL.out).mono ?_
        rintro e u ⟨rfl, hbN⟩
        replace HB := below_step HB hbN
        clear hbN hp0 hq0
        go_wp2
        go_ret3
        exact ⟨_, ret_i3 (by rw [HR.out]) rfl (by rw [HR.out]), (by rw [HR.out]; intro _; rfl), below_step HW.out HB⟩
set_option maxRecDepth 100000 in
set_option maxHeartbeats 2000000 in
theorem rexprCheck_any (p : ProgD) (ps : L FieldD) (x : L NodeD) (w : World) (o : ProgOk w p) (hps : LOk w 2 FieldD.cells ps) (hx : LOk w 3 NodeD.cells x) :
    Calls Tryz.prog 21 #[.slice x.A x.l.length x.c, .agg (scopeCells p ps)] w fun e w' => e = .returned (.tuple #[.int .i64 (exprM p ps.l x.l).1, .int .i64 (exprM p ps.l x.l).2]) ∧ Below w.heap.size w w' := by
  have HO := Lib.hid o
  have HP := Lib.hid hps
  have HX := Lib.hid hx
  have hm := hx.1
  clear o hps hx
  obtain ⟨W, hW, hw, HB, hp⟩ := box1 w (scopeCells p ps) 44
  have HW := Lib.hid hw
  clear hw
  by_cases h1 : 24 < x.l.length
  · have HR := Lib.hid (show exprM p ps.l x.l = (0, 12) by rw [exprM, if_pos h1])
    go_enter Tryz.func21, Tryz.ntmps21
    go_wp2
    go_ret2
    exact ⟨ret_pp HR.out, below1 _ _⟩
  have HR := Lib.hid (show exprM p ps.l x.l = _ by rw [exprM, if_neg h1])
  have hf := chkM_fine p ps.l x.l (x.l.length + 1) 0
  have hle : x.l.length ≤ 24 := by omega
  go_enter Tryz.func21, Tryz.ntmps21
  go_upto_region 1 with fail
  rw [← hW]
  clear hW
  go_wp2_with fail
  refine (rchk_any p ps x hle (x.l.length + 1) 0 _ (by omega) (by omega) (HO.out.below (below_step HW.out (by first | exact HB | exact below_alloc HB _ | exact below_alloc (below_alloc HB _) _ | exact below_alloc (below_alloc (below_alloc HB _) _) _))) (HP.out.below (below_step HW.out (by first | exact HB | exact below_alloc HB _ | exact below_alloc (below_alloc HB _) _ | exact below_alloc (below_alloc (below_alloc HB _) _) _)) (Nat.le_refl _)) (HX.out.below (below_step HW.out (by first | exact HB | exact below_alloc HB _ | exact below_alloc (below_alloc HB _) _ | exact below_alloc (below_alloc (below_alloc HB _) _) _)) (Nat.le_refl _))).mono ?_
  rintro e w1 ⟨z, rfl, hz, hbN⟩
  replace HB := below_step HB hbN
  clear hbN
  generalize chkM p ps.l x.l (x.l.length + 1) 0 = r at *
  obtain ⟨a, t, c⟩ := r
  simp only at HR hf hz
  by_cases k1 : c = 0
  · subst k1
    obtain ⟨_, f2, _⟩ := hf rfl
    obtain rfl := hz rfl
    clear hz hf
    by_cases k2 : t < x.l.length
    · replace HR : Hid (exprM p ps.l x.l = (0, 4)) := Lib.hid (by rw [HR.out]; simp [k2])
      go_wp2
      go_ret2
      exact ⟨ret_pp HR.out, below_step HW.out HB⟩
    · replace HR : Hid (exprM p ps.l x.l = (a, 0)) := Lib.hid (by rw [HR.out]; simp [k2])
      go_wp2
      go_ret2
      exact ⟨ret_pp HR.out, below_step HW.out HB⟩
  · have k1' : (c == 0) = false := beq_eq_false_iff_ne.2 k1
    replace HR : Hid (exprM p ps.l x.l = (0, c)) := Lib.hid (by rw [HR.out]; simp [k1])
    clear hz hf k1
    go_wp2
    go_ret2
    exact ⟨ret_pp HR.out, below_step HW.out HB⟩
end Go.Proofs.YtpomjcndeanjgaaGreatDoor
namespace Go.Proofs.YtpomjcndeanjgaaGreatDoor
open Go.RowKit
theorem sym_two {ts : List Tk} {i : Nat} {a b : List UInt8} (h : isSym ts a i = true) (hne : a ≠ b) : isSym ts b i = false := by
  have hi := sym_lt h
  rw [sym_some (List.getElem?_eq_getElem hi), Bool.and_eq_true, decide_eq_true_iff, decide_eq_true_iff] at h
  rw [sym_some (List.getElem?_eq_getElem hi), h.2, decide_eq_false hne, Bool.and_false]
theorem rexpr_of {x : L Tk} {p : ProgD} {ps : L FieldD} {i : Nat} {w : World} {opd : Nat → Pd} (E : REnv w x p ps) (hO : ROpdOk x p ps opd i) (hB : ∀ j, j ≤ x.l.length → RBd x.l j (opd j)) (hi : i ≤ x.l.length) :
    Calls Tryz.prog 30 #[.slice x.A x.l.length x.c, .int .i64 i, .agg (scopeCells p ps)] w (RG w (rExprOf opd x.l i)) := by
  unfold rExprOf
  rcases Bool.eq_false_or_eq_true (isSym x.l [126] i) with h126 | h126
  · rw [if_pos h126]; exact rexTilde E hO hB hi h126 rfl
  rw [if_neg (by rw [h126]; simp)]
  simp only
  by_cases hz : (opd i).e = 0
  case neg => rw [if_pos hz]; exact rexErr E hO hB hi h126 hz rfl
  rw [if_neg (by simpa using hz)]
  rcases Bool.eq_false_or_eq_true (isSym x.l [60, 60] (opd i).at_) with hlt | hlt
  · have hgg := sym_two (b := [62, 62]) hlt (by decide)
    rw [if_pos (.inl hlt)]
    by_cases hx : expR x.l ((opd i).at_ + 1) 2 [] = 0
    case neg => rw [if_pos hx]; exact rexShlBad E hO hB hi h126 hz hlt hgg hx rfl
    rw [if_neg (by simpa using hx), hgg]
    exact rexShlOk E hO hB hi h126 hz hlt hgg hx rfl
  rcases Bool.eq_false_or_eq_true (isSym x.l [62, 62] (opd i).at_) with hgg | hgg
  · rw [if_pos (.inr hgg)]
    by_cases hx : expR x.l ((opd i).at_ + 1) 2 [] = 0
    case neg => rw [if_pos hx]; exact rexShrBad E hO hB hi h126 hz hlt hgg hx rfl
    rw [if_neg (by simpa using hx), hgg]
    exact rexShrOk E hO hB hi h126 hz hlt hgg hx rfl
  rw [if_neg (by rw [hlt, hgg]; simp)]
  rcases Bool.eq_false_or_eq_true (isSym x.l [91] (opd i).at_) with h91 | h91
  · rw [if_pos h91]
    by_cases hx : expAll x.l ((opd i).at_ + 1) [(2, []), (3, [43]), (2, []), (3, [93])] = 0
    case neg => rw [if_pos hx]; exact rexSliceBad E hO hB hi h126 hz hlt hgg h91 hx rfl
    rw [if_neg (by simpa using hx)]
    exact rexSliceOk E hO hB hi h126 hz hlt hgg h91 hx rfl
  rw [if_neg (by rw [h91]; simp)]
  by_cases hop : 0 < rOper x.l (opd i).at_
  · rw [if_pos hop]; exact rexBin E hO hB hi h126 hz hlt hgg h91 hop rfl
  rw [if_neg hop]
  rcases Bool.eq_false_or_eq_true (isSym x.l [63] (opd i).at_) with h63 | h63
  case inr => rw [if_neg (by rw [h63]; simp)]; exact rexNone E hO hB hi h126 hz hlt hgg h91 hop h63 rfl
  rw [if_pos h63]
  by_cases hy : (opd ((opd i).at_ + 1)).e = 0
  case neg => rw [if_pos hy]; exact rexIfY E hO hB hi h126 hz hlt hgg h91 hop h63 hy rfl
  rw [if_neg (by simpa using hy)]
  by_cases hc : expR x.l (opd ((opd i).at_ + 1)).at_ 3 [58] = 0
  case neg => rw [if_pos hc]; exact rexIfC E hO hB hi h126 hz hlt hgg h91 hop h63 hy hc rfl
  rw [if_neg (by simpa using hc)]
  by_cases hze : (opd ((opd ((opd i).at_ + 1)).at_ + 1)).e = 0
  case neg => rw [if_pos hze]; exact rexIfZ E hO hB hi h126 hz hlt hgg h91 hop h63 hy hc hze rfl
  rw [if_neg (by simpa using hze)]
  exact rexIfOk E hO hB hi h126 hz hlt hgg h91 hop h63 hy hc hze rfl
theorem ropdS {x : L Tk} {p : ProgD} {ps : L FieldD} : ∀ (k i : Nat), x.l.length ≤ i + k → ROpdOk x p ps (rOpd p ps.l x.l k) i
  | 0, i, hk => fun w j hj hjl E => by
    rw [rOpd, if_pos (by omega)]
    exact ropdOut E (by omega)
  | k + 1, i, hk => fun w j hj hjl E => by
    rw [rOpd]
    by_cases hl : x.l.length ≤ j
    · rw [if_pos hl]; exact ropdOut E (by omega)
    rw [if_neg hl]
    rcases Bool.eq_false_or_eq_true (isSym x.l [40] j) with h40 | h40
    · rw [if_pos h40]
      have hX := fun u (e : REnv u x p ps) => rexpr_of e (ropdS k (j + 1) (by omega)) (ropd_bd p ps.l x.l k) (by omega)
      have hb := (rexpr_bd (ropd_bd p ps.l x.l k) (j + 1) (by omega)).top
      have hf := E.few
      simp only
      generalize rExprOf (rOpd p ps.l x.l k) x.l (j + 1) = R at *
      by_cases hre : R.e = 0
      · rw [if_pos hre]; exact ropdParOk E (by omega) h40 hX (by omega) hre
      · rw [if_neg hre]; exact ropdParBad E (by omega) h40 hX (by omega) hre
    · rw [if_neg (by rw [h40]; simp)]
      exact ropdPrim E (by omega) h40
theorem rexpr_any {x : L Tk} {p : ProgD} {ps : L FieldD} {i : Nat} {w : World} (E : REnv w x p ps) (hi : i ≤ x.l.length) :
    Calls Tryz.prog 30 #[.slice x.A x.l.length x.c, .int .i64 i, .agg (scopeCells p ps)] w (RG w (rExpr p ps.l x.l i)) :=
  rexpr_of E (ropdS x.l.length i (by omega)) (ropd_bd p ps.l x.l x.l.length) hi
theorem rexpr_len {x : L Tk} {p : ProgD} {ps : L FieldD} {i : Nat} (hi : i ≤ x.l.length) : (rExpr p ps.l x.l i).n.length ≤ x.l.length ∧ (rExpr p ps.l x.l i).at_ ≤ 2 * x.l.length + 4 := by
  have h := rexpr_bd (ropd_bd p ps.l x.l x.l.length) i hi
  have h1 := h.n
  have h2 := h.top
  unfold rExpr
  omega
def rTokM (p : ProgD) (ps : List FieldD) (ts : List Tk) (i : Int) : List NodeD × Int × Int :=
  if i < 0 ∨ (ts.length : Int) < i then ([], 0, 2)
  else
    let x := rExpr p ps ts i.toNat
    if x.e ≠ 0 then ([], 0, x.e)
    else if (exprM p ps x.n).2 ≠ 0 then ([], 0, (exprM p ps x.n).2)
    else (x.n, (x.at_ : Int), 0)
theorem rTokM_eq (p : ProgD) (ps : List FieldD) (ts : List Tk) (hks : KindsOk ts) (i : Int) : rTokM p ps ts i = parseTokM p ps ts i := (parseTok_ref p ps ts hks i).symm
set_option maxRecDepth 100000 in
set_option maxHeartbeats 8000000 in
theorem rparseTok_any (p : ProgD) (ps : L FieldD) (x : L Tk) (i : Int) (w : World) (E : REnv w x p ps) :
    Calls Tryz.prog 16 #[.slice x.A x.l.length x.c, .int .i64 i, .agg (scopeCells p ps)] w (PtOk w (parseTokM p ps.l x.l i).1 (parseTokM p ps.l x.l i).2.1 (parseTokM p ps.l x.l i).2.2) := by
  have HE := Lib.hid E
  have hm := E.few
  obtain ⟨W, hW, hw, HB, hp⟩ := box1 w (scopeCells p ps) 44
  have HW := Lib.hid hw
  have HEW := Lib.hid (E.below hw)
  rw [← rTokM_eq p ps.l x.l (TkOk.kinds E.ok) i]
  have HR : Hid (rTokM p ps.l x.l i = _) := Lib.hid (rTokM.eq_1 p ps.l x.l i)
  generalize rTokM p ps.l x.l i = R at *
  clear hw E
  by_cases hi : i < 0 ∨ (x.l.length : Int) < i
  · replace HR : Hid (R = ([], 0, 2)) := Lib.hid (HR.out.trans (if_pos hi))
    clear hp
    by_cases h0 : i < 0
    · have h0' : decide (i < 0) = true := decide_eq_true h0
      go_enter Tryz.func16, Tryz.ntmps16
      go_upto_region 1 with fail
      rw [← hW]
      clear hW hi
      go_wp2
      go_ret3
      exact ret_pt HR.out (PtOk.nil HW.out)
    · have h0' : decide (i < 0) = false := decide_eq_false h0
      have h1 : (x.l.length : Int) < i := by omega
      have h1' : decide ((x.l.length : Int) < i) = true := decide_eq_true h1
      go_enter Tryz.func16, Tryz.ntmps16
      go_upto_region 1 with fail
      rw [← hW]
      clear hW hi
      go_wp2
      go_ret3
      exact ret_pt HR.out (PtOk.nil HW.out)
  obtain ⟨j, rfl⟩ : ∃ j : Nat, i = j := ⟨i.toNat, (Int.toNat_of_nonneg (by omega)).symm⟩
  have hj : j ≤ x.l.length := by omega
  have h0' : decide ((j : Int) < 0) = false := decide_eq_false (by omega)
  have h1' : decide ((x.l.length : Int) < (j : Int)) = false := decide_eq_false (by omega)
  have h1'' : decide (x.l.length < j) = false := decide_eq_false (by omega)
  replace HR := Lib.hid (HR.out.trans (if_neg hi))
  simp only [Int.toNat_natCast] at HR
  have hp1 := hp W HB
  have HX := Lib.hid (rexpr_any HEW.out hj)
  have hbl := rexpr_len (p := p) (ps := ps) hj
  generalize rExpr p ps.l x.l j = r at *
  obtain ⟨rn, rj, re⟩ := r
  simp only at HR HX hbl
  clear hi
  go_enter Tryz.func16, Tryz.ntmps16
  go_upto_region 1 with fail
  rw [← hW]
  clear hW
  go_wp2_with fail
  refine HX.out.mono ?_
  rintro r w1 ⟨⟨A, c, rfl, hl, hn, hf⟩, hb1⟩
  have HB1 := Lib.hid hb1
  have HL1 := Lib.hid hl
  clear hb1 hl hn hf HX hp1
  by_cases hre : re = 0
  case neg =>
    replace HR : Hid (R = ([], 0, re)) := Lib.hid (HR.out.trans (if_pos hre))
    have h2 : (re != 0) = true := bne_iff_ne.2 hre
    go_upto_region 4 with fail
    obtain ⟨V, hV⟩ : ∃ V, V = w1.alloc (.cells #[.slice A rn.length c, .int .i64 rj, .int .i64 re] 88) := ⟨_, rfl⟩
    have HVB : Hid (Blk V w1.heap.size 88 #[.slice A rn.length c, .int .i64 rj, .int .i64 re]) := Lib.hid (by rw [hV]; exact Blk.new _ _ _)
    have HBV : Hid (Below W.heap.size W V) := Lib.hid (by rw [hV]; exact below_alloc HB1.out _)
    rw [← hV]
    clear hV hre hp
    have v2 : V.cell? ⟨w1.heap.size, 2, none⟩ = some (.int .i64 re) := HVB.out.cell 2
    go_upto_region 5 with fail
    go_quiet (fail)
    go_wp2
    go_ret3
    exact ret_pt HR.out (PtOk.nil (below_step HW.out (below_drewN HBV.out _)))
  subst hre
  replace HR : Hid (R = if (exprM p ps.l rn).2 ≠ 0 then ([], 0, (exprM p ps.l rn).2) else (rn, (rj : Int), 0)) := Lib.hid (HR.out.trans (if_neg (by simp)))
  go_upto_region 4 with fail
  obtain ⟨V, hV⟩ : ∃ V, V = w1.alloc (.cells #[.slice A rn.length c, .int .i64 rj, .int .i64 0] 88) := ⟨_, rfl⟩
  have HVB : Hid (Blk V w1.heap.size 88 #[.slice A rn.length c, .int .i64 rj, .int .i64 0]) := Lib.hid (by rw [hV]; exact Blk.new _ _ _)
  have HBV : Hid (Below W.heap.size W V) := Lib.hid (by rw [hV]; exact below_alloc HB1.out _)
  have HLV : Hid (LOk V 3 NodeD.cells ⟨rn, A, c⟩) := Lib.hid (by rw [hV]; exact HL1.out.below (below1 _ _) (Nat.le_refl _))
  rw [← hV]
  clear hV
  have v0 : V.cell? ⟨w1.heap.size, 0, none⟩ = some (.slice A rn.length c) := HVB.out.cell 0
  have v2 : V.cell? ⟨w1.heap.size, 2, none⟩ = some (.int .i64 0) := HVB.out.cell 2
  have hp2 := hp V HBV.out
  have HEV := Lib.hid (HEW.out.below HBV.out)
  have HCK := Lib.hid (rexprCheck_any p ps ⟨rn, A, c⟩ V HEV.out.prog HEV.out.pars HLV.out)
  generalize exprM p ps.l rn = em at *
  obtain ⟨ea, ec⟩ := em
  simp only at HR HCK
  go_wp2_with fail
  refine HCK.out.mono ?_
  rintro r w3 ⟨rfl, hb3⟩
  have HB3 := Lib.hid (below_step HBV.out hb3)
  have HV3 := Lib.hid (HVB.out.below hb3 HVB.out.lt)
  have HL3 := Lib.hid (HLV.out.below hb3 (Nat.le_refl _))
  clear hb3 HCK hp2 v0 v2 hp
  by_cases hec : ec = 0
  case neg =>
    replace HR : Hid (R = ([], 0, ec)) := Lib.hid (HR.out.trans (if_pos hec))
    have h2 : (ec != 0) = true := bne_iff_ne.2 hec
    clear hec
    go_wp2
    go_ret3
    exact ret_pt HR.out (PtOk.nil (below_step HW.out HB3.out))
  subst hec
  replace HR : Hid (R = (rn, (rj : Int), 0)) := Lib.hid (HR.out.trans (if_neg (by simp)))
  have v0 : w3.cell? ⟨w1.heap.size, 0, none⟩ = some (.slice A rn.length c) := HV3.out.cell 0
  have v1 : w3.cell? ⟨w1.heap.size, 1, none⟩ = some (.int .i64 rj) := HV3.out.cell 1
  go_upto_region 9 with fail
  go_quiet (fail)
  go_wp2
  go_ret3
  exact ret_pt HR.out ⟨A, c, rfl, HL3.out.below (below_drewN (Below.refl w3.heap.size w3) _) (Nat.le_refl _), below_step HW.out (below_drewN HB3.out _)⟩
end Go.Proofs.YtpomjcndeanjgaaGreatDoor
namespace Go.Proofs.YtpomjcndeanjgaaGreatDoor
open Go.RowKit
def endM : List NodeD → Nat → Option Nat
  | [], _ => none
  | x :: r, n => if arityM x.op < 0 then none else if n + (arityM x.op).toNat = 1 then some 1 else (endM r (n + (arityM x.op).toNat - 1)).map (· + 1)
theorem endM_step {l : List NodeD} {i : Nat} {x : NodeD} (h : l[i]? = some x) (n : Nat) : endM (l.drop i) n = if arityM x.op < 0 then none else if n + (arityM x.op).toNat = 1 then some 1 else (endM (l.drop (i + 1)) (n + (arityM x.op).toNat - 1)).map (· + 1) := by
  have hi := (List.getElem?_eq_some_iff.1 h).1
  have he : l[i] = x := by rw [List.getElem?_eq_getElem hi] at h; injection h
  rw [List.drop_eq_getElem_cons hi, endM, he]
theorem map_add (o : Option Nat) (a b : Nat) : (o.map (· + a)).map (· + b) = o.map (· + (a + b)) := by cases o <;> simp [Nat.add_assoc]
theorem tx_end {p : ProgD} {ps : List FieldD} {l : List NodeD} {i j : Nat} {s : ByteArray} (h : Tx p ps l i j s) : ∀ n, endM (l.drop i) (n + 1) = if n = 0 then some (j - i) else (endM (l.drop j) n).map (· + (j - i)) := by
  induction h with
  | @leaf i x h ha hk =>
    intro n
    rw [endM_step h, ha]
    cases n with
    | zero => simp
    | succ n => simp
  | @un i j x y s h ha hk hy t1 ih =>
    intro n
    have := t1.lt
    rw [endM_step h, ha]
    simp only [show ¬ ((1 : Int) < 0) by decide, if_false, show (1 : Int).toNat = 1 from rfl, show ¬ (n + 1 + 1 = 1) by omega, Nat.add_sub_cancel, ih n]
    split
    · simp only [Option.map_some]; congr 1; omega
    · rw [map_add, show j - (i + 1) + 1 = j - i by omega]
  | @bi i m j x y z s t h ha hk hy t1 hz t2 ih1 ih2 =>
    intro n
    have := t1.lt
    have := t2.lt
    rw [endM_step h, ha]
    simp only [show ¬ ((2 : Int) < 0) by decide, if_false, show (2 : Int).toNat = 2 from rfl, show ¬ (n + 1 + 2 = 1) by omega, show n + 1 + 2 - 1 = (n + 1) + 1 by omega, ih1 (n + 1), show ¬ (n + 1 = 0) by omega, ih2 n]
    split
    · simp only [Option.map_some]; congr 1; omega
    · rw [map_add, map_add, show j - m + (m - (i + 1) + 1) = j - i by omega]
  | @tri i m k j x y z u s t r h ha hk hy t1 hz t2 hu t3 ih1 ih2 ih3 =>
    intro n
    have := t1.lt
    have := t2.lt
    have := t3.lt
    rw [endM_step h, ha]
    simp only [show ¬ ((3 : Int) < 0) by decide, if_false, show (3 : Int).toNat = 3 from rfl, show ¬ (n + 1 + 3 = 1) by omega, show n + 1 + 3 - 1 = (n + 2) + 1 by omega, ih1 (n + 2), show ¬ (n + 2 = 0) by omega, show n + 2 = (n + 1) + 1 by omega, ih2 (n + 1), show ¬ (n + 1 = 0) by omega, ih3 n]
    split
    · simp only [Option.map_some]; congr 1; omega
    · rw [map_add, map_add, map_add, show j - k + (k - m + (m - (i + 1) + 1)) = j - i by omega]
theorem endM_le : ∀ {l : List NodeD} {n m : Nat}, endM l n = some m → m ≤ l.length ∧ 1 ≤ m ∧ n ≤ m
  | [], _, _, h => by cases h
  | x :: r, n, m, h => by
    rw [endM] at h
    split at h
    · cases h
    · split at h
      · injection h with h; simp; omega
      · rcases he : endM r (n + (arityM x.op).toNat - 1) with _ | k
        · rw [he] at h; cases h
        · rw [he] at h; simp only [Option.map_some, Option.some.injEq] at h
          have := endM_le he
          simp only [List.length_cons]; omega
set_option maxRecDepth 100000 in
set_option maxHeartbeats 2000000 in
theorem rend_any (x : L NodeD) (i j : Nat) (w : World) (h : LOk w 3 NodeD.cells x) (hi : i < x.l.length) (he : endM (x.l.drop i) 1 = some (j - i)) (hj : i ≤ j) :
    Calls Tryz.prog 47 #[.slice x.A x.l.length x.c, .int .i64 i] w fun e w' => e = .returned (.int .i64 j) ∧ w = w' := by
  have HX := Lib.hid h
  have hm := h.1
  unfold maxLen at hm
  have HE := Lib.hid he
  have hii : (i : Int) < (x.l.length : Int) := by omega
  have hd1 : decide ((x.l.length : Int) ≤ (i : Int)) = false := decide_eq_false (by omega)
  have hd2 : decide (x.l.length ≤ i) = false := decide_eq_false (by omega)
  clear h he
  go_enter Tryz.func47, Tryz.ntmps47
  go_wp2
  go_loopw [5, 6, 7] (fun nv iv _ wr => w = wr ∧ ∃ k n : Nat, k ≤ x.l.length ∧ iv = .int .i64 k ∧ nv = .int .i64 n ∧ 1 ≤ n ∧ n ≤ x.l.length ∧ Hid (∃ q, endM (x.l.drop k) n = some q ∧ k + q = j)) (fun _ i _ _ => x.l.length - (intOf i).toNat)
  case atStart => exact ⟨rfl, i, 1, by omega, rfl, rfl, Nat.le_refl _, by omega, Lib.hid ⟨_, HE.out, by omega⟩⟩
  case round =>
  obtain ⟨rfl, k, n, hk, rfl, rfl, hn, hn2, HQ⟩ := hrel
  have hlt : k < x.l.length := by
    obtain ⟨q, hq, _⟩ := HQ.out
    have := endM_le hq
    rw [List.length_drop] at this
    omega
  have hki : (k : Int) < (x.l.length : Int) := by omega
  obtain ⟨q, hq, hqj⟩ := HQ.out
  rw [endM_step (List.getElem?_eq_getElem hlt)] at hq
  obtain ⟨g, of, hA, hall⟩ := NodeD.atA HX.out hlt
  obtain ⟨d0, d1, d2⟩ := hall w (Below.refl _ _)
  simp only [hA]
  generalize x.l[k] = y at *
  have ha := arityM_cases y.op
  have hnn : ¬ arityM y.op < 0 := fun h => by rw [if_pos h] at hq; cases hq
  rw [if_neg hnn] at hq
  have HQ2 := Lib.hid hq
  have HQJ := Lib.hid hqj
  have HRA := Lib.hid (rarity_any y.op)
  clear hq hqj HQ hall
  generalize arityM y.op = a at *
  obtain ⟨b, rfl⟩ : ∃ b : Nat, a = b := ⟨a.toNat, (Int.toNat_of_nonneg (by omega)).symm⟩
  have hb3 : b ≤ 3 := by omega
  clear ha hnn
  go_wp2_with fail
  refine (HRA.out _).mono ?_
  rintro e w' ⟨rfl, rfl⟩
  by_cases hs : n + b = 1
  · have hq : q = 1 := by have := HQ2.out; rw [Int.toNat_natCast, if_pos hs] at this; injection this with this; exact this.symm
    have hkj := HQJ.out
    have t1 : ((n : Int) + ((b : Int) - 1) == 0) = true := beq_iff_eq.2 (by omega)
    have t2 : (((n + b - 1 : Nat) : Int) == 0) = true := beq_iff_eq.2 (by omega)
    go_wp2
    go_ret
    exact ⟨congrArg (fun z => Ending.returned (.int .i64 z)) (by omega), rfl⟩
  · have hq : ∃ r, endM (x.l.drop (k + 1)) (n + b - 1) = some r ∧ q = r + 1 := by
      have := HQ2.out
      rw [Int.toNat_natCast, if_neg hs] at this
      rcases he : endM (x.l.drop (k + 1)) (n + b - 1) with _ | r
      · rw [he] at this; cases this
      · rw [he] at this; simp only [Option.map_some, Option.some.injEq] at this; exact ⟨r, rfl, this.symm⟩
    obtain ⟨r, hr, hqr⟩ := hq
    have hle := endM_le hr
    rw [List.length_drop] at hle
    have hkj := HQJ.out
    have HN : Hid (∃ q, endM (x.l.drop (k + 1)) (n + b - 1) = some q ∧ k + 1 + q = j) := Lib.hid ⟨r, hr, by omega⟩
    clear hr
    have t1 : ((n : Int) + ((b : Int) - 1) == 0) = false := beq_eq_false_iff_ne.2 (by omega)
    go_wp2
    go_roundw
    case rel => exact ⟨trivial, k + 1, n + b - 1, by omega, by go_num, by go_num, by omega, by omega, HN⟩
    case measure => simp [intOf]; omega
end Go.Proofs.YtpomjcndeanjgaaGreatDoor
namespace Go.Proofs.YtpomjcndeanjgaaGreatDoor
open Go.RowKit
theorem ret_bT {a b : Bool} (h : a = b) : Ending.returned (.bool b) = .returned (.bool a) := by rw [h]
set_option maxHeartbeats 1000000 in
theorem rprim_any (op : Int) (w : World) (h : 1 ≤ op ∧ op ≤ 17) : Calls Tryz.prog 85 #[.int .i64 op] w fun e w' => e = .returned (.bool (decide (op ≤ 4))) ∧ w = w' := by
  by_cases h4 : op ≤ 4
  · have HR : Hid (decide (op ≤ 4) = true) := Lib.hid (decide_eq_true h4)
    rw [HR.out]
    have hc : op = 1 ∨ op = 2 ∨ op = 3 ∨ op = 4 := by omega
    clear HR
    rcases hc with rfl | rfl | rfl | rfl
    all_goals
      go_enter Tryz.func85, Tryz.ntmps85
      go_wp2
      go_ret
      exact ⟨rfl, rfl⟩
  · have HR : Hid (decide (op ≤ 4) = false) := Lib.hid (decide_eq_false h4)
    rw [HR.out]
    have t1 : (op == 1) = false := beq_eq_false_iff_ne.2 (by omega)
    have t2 : (op == 2) = false := beq_eq_false_iff_ne.2 (by omega)
    have t3 : (op == 3) = false := beq_eq_false_iff_ne.2 (by omega)
    have t4 : (op == 4) = false := beq_eq_false_iff_ne.2 (by omega)
    clear HR h4 h
    go_enter Tryz.func85, Tryz.ntmps85
    go_wp2
    go_ret
    exact ⟨rfl, rfl⟩
set_option maxRecDepth 100000 in
set_option maxHeartbeats 4000000 in
theorem rright_any (p : ProgD) (ps : L FieldD) (h : Int) (w : World) (o : ProgOk w p) (nm : Names p ps.l) (hh : h = -1 ∨ (0 ≤ h ∧ h.toNat < p.headers.l.length)) :
    Calls Tryz.prog 41 #[.agg (scopeCells p ps), .int .i64 h] w fun e w' => e = .returned (.bool (rightH p h)) ∧ Below w.heap.size w w' := by
  obtain ⟨W, hW, hw, HB, hp⟩ := box1 w (scopeCells p ps) 44
  have HW := Lib.hid hw
  have HH := Lib.hid (fun u (hb : Below W.heap.size W u) => rheader_any p ps h u (o.below (below_step hw hb)) hh)
  have HF := Lib.hid (fun u (hb : Below W.heap.size W u) => rfindHeader_any p ps (hdrB p h) u (o.below (below_step hw hb)))
  have hsz : (hdrB p h).size ≤ 1000 := by
    rcases hh with rfl | ⟨h0, h1⟩
    · exact (by decide : metaName.size ≤ 1000)
    · obtain ⟨k, rfl⟩ : ∃ k : Nat, h = k := ⟨h.toNat, (Int.toNat_of_nonneg h0).symm⟩
      have hk : k < p.headers.l.length := by simpa using h1
      rw [(hdr_at' p hk).1]; exact nm.hdr _ (List.getElem_mem hk)
  have HI := Lib.hid (fun u => risIdent_any (hdrB p h) u (by unfold maxLen; omega))
  have HR : Hid (rightH p h = (decide (h < 0) || (decide (hdrB p h ≠ metaName) && (ident (hdrB p h) && decide (Lib.idxOfS (hNames p) (hdrB p h) = h))))) := Lib.hid rfl
  generalize rightH p h = R at *
  by_cases hn : h < 0
  · have t1 : decide (h < 0) = true := decide_eq_true hn
    have HRR : Hid (R = true) := Lib.hid (by rw [HR.out, t1]; rfl)
    clear HR hn
    go_enter Tryz.func41, Tryz.ntmps41
    go_upto_region 1 with fail
    rw [← hW]
    clear hW
    go_wp2_with fail
    refine (HH.out _ (by first | exact HB | exact below_alloc HB _ | exact below_alloc (below_alloc HB _) _ | exact below_alloc (below_alloc (below_alloc HB _) _) _)).mono ?_
    rintro e w1 ⟨rfl, hbN⟩
    replace HB := below_step (by first | exact HB | exact below_alloc HB _ | exact below_alloc (below_alloc HB _) _ | exact below_alloc (below_alloc (below_alloc HB _) _) _) hbN
    clear hbN
    go_wp2
    go_ret
    exact ⟨ret_bT HRR.out, below_step HW.out HB⟩
  have t1 : decide (h < 0) = false := decide_eq_false hn
  rcases hi : ident (hdrB p h) with _ | _
  · have HRR : Hid (R = false) := Lib.hid (by rw [HR.out, t1, hi]; simp)
    have HI2 := Lib.hid (fun u => show Calls Tryz.prog 42 #[.string (hdrB p h)] u fun e w' => e = .returned (.bool false) ∧ u = w' from by rw [← hi]; exact HI.out u)
    clear HR hn HI hi
    go_enter Tryz.func41, Tryz.ntmps41
    go_upto_region 1 with fail
    rw [← hW]
    clear hW
    go_wp2_with fail
    refine (HH.out _ (by first | exact HB | exact below_alloc HB _ | exact below_alloc (below_alloc HB _) _ | exact below_alloc (below_alloc (below_alloc HB _) _) _)).mono ?_
    rintro e w1 ⟨rfl, hbN⟩
    replace HB := below_step (by first | exact HB | exact below_alloc HB _ | exact below_alloc (below_alloc HB _) _ | exact below_alloc (below_alloc (below_alloc HB _) _) _) hbN
    clear hbN
    go_wp2_with fail
    refine (HI2.out _).mono ?_
    rintro e w' ⟨rfl, rfl⟩
    go_wp2
    go_ret
    exact ⟨ret_bT HRR.out, below_step HW.out HB⟩
  have HI2 := Lib.hid (fun u => show Calls Tryz.prog 42 #[.string (hdrB p h)] u fun e w' => e = .returned (.bool true) ∧ u = w' from by rw [← hi]; exact HI.out u)
  by_cases hm : hdrB p h = metaName
  · have hmb : ((hdrB p h).toList == [109, 101, 116, 97]) = true := by rw [← meta_list]; exact toList_true hm
    have hmc : ((hdrB p h).toList != [109, 101, 116, 97]) = false := by rw [bne, hmb]; rfl
    have HRR : Hid (R = false) := Lib.hid (by rw [HR.out, t1, hm]; simp)
    clear HR hn HI hi hm
    go_enter Tryz.func41, Tryz.ntmps41
    go_upto_region 1 with fail
    rw [← hW]
    clear hW
    go_wp2_with fail
    refine (HH.out _ (by first | exact HB | exact below_alloc HB _ | exact below_alloc (below_alloc HB _) _ | exact below_alloc (below_alloc (below_alloc HB _) _) _)).mono ?_
    rintro e w1 ⟨rfl, hbN⟩
    replace HB := below_step (by first | exact HB | exact below_alloc HB _ | exact below_alloc (below_alloc HB _) _ | exact below_alloc (below_alloc (below_alloc HB _) _) _) hbN
    clear hbN
    go_wp2_with fail
    refine (HI2.out _).mono ?_
    rintro e w' ⟨rfl, rfl⟩
    go_wp2
    go_ret
    exact ⟨ret_bT HRR.out, below_step HW.out HB⟩
  · have hmb : ((hdrB p h).toList == [109, 101, 116, 97]) = false := by rw [← meta_list]; exact toList_false hm
    have hmc : ((hdrB p h).toList != [109, 101, 116, 97]) = true := by rw [bne, hmb]; rfl
    have HRR : Hid (R = (Lib.idxOfS (hNames p) (hdrB p h) == h)) := Lib.hid (by rw [HR.out, t1, hi, decide_eq_true hm]; simp only [Bool.false_or, Bool.true_and]; rfl)
    clear HR hn HI hi hm
    have hp1 := fun u (hb : Below W.heap.size W u) => hp u hb
    go_enter Tryz.func41, Tryz.ntmps41
    go_upto_region 1 with fail
    rw [← hW]
    clear hW
    go_wp2_with fail
    refine (HH.out _ (by first | exact HB | exact below_alloc HB _ | exact below_alloc (below_alloc HB _) _ | exact below_alloc (below_alloc (below_alloc HB _) _) _)).mono ?_
    rintro e w1 ⟨rfl, hbN⟩
    replace HB := below_step (by first | exact HB | exact below_alloc HB _ | exact below_alloc (below_alloc HB _) _ | exact below_alloc (below_alloc (below_alloc HB _) _) _) hbN
    clear hbN
    go_wp2_with fail
    refine (HI2.out _).mono ?_
    rintro e w' ⟨rfl, rfl⟩
    have hp2 := hp _ HB
    go_wp2_with fail
    refine (HF.out _ (by first | exact HB | exact below_alloc HB _ | exact below_alloc (below_alloc HB _) _ | exact below_alloc (below_alloc (below_alloc HB _) _) _)).mono ?_
    rintro e w2 ⟨rfl, hbN⟩
    replace HB := below_step (by first | exact HB | exact below_alloc HB _ | exact below_alloc (below_alloc HB _) _ | exact below_alloc (below_alloc (below_alloc HB _) _) _) hbN
    clear hbN
    go_wp2
    go_ret
    exact ⟨ret_bT HRR.out, below_step HW.out HB⟩
end Go.Proofs.YtpomjcndeanjgaaGreatDoor
namespace Go.Proofs.YtpomjcndeanjgaaGreatDoor
open Go.RowKit
def TxtC (W : World) (x : L NodeD) (p : ProgD) (ps : L FieldD) (i : Nat) (s : ByteArray) : Prop := ∀ (w : World), Below W.heap.size W w →
  Calls Tryz.prog 23 #[.slice x.A x.l.length x.c, .int .i64 i, .agg (scopeCells p ps)] w fun e w' => e = .returned (.string s) ∧ Below w.heap.size w w'
def ROpdC (W : World) (x : L NodeD) (p : ProgD) (ps : L FieldD) (i : Nat) (s : ByteArray) : Prop := ∀ (w : World), Below W.heap.size W w →
  Calls Tryz.prog 46 #[.slice x.A x.l.length x.c, .int .i64 i, .agg (scopeCells p ps)] w fun e w' => e = .returned (.string s) ∧ Below w.heap.size w w'
theorem ret_s {s t : ByteArray} (h : s = t) : Ending.returned (.string s) = .returned (.string t) := by rw [h]
set_option maxRecDepth 100000 in
set_option maxHeartbeats 4000000 in
theorem ropd_of_text {W : World} {x : L NodeD} {p : ProgD} {ps : L FieldD} {i : Nat} {s : ByteArray} {y : NodeD} (E : WEnv W x p ps) (hy : x.l[i]? = some y) (hop : 1 ≤ y.op ∧ y.op ≤ 17) (hs : s.size ≤ 1000000) (H : TxtC W x p ps i s) :
    ROpdC W x p ps i (opdB y s) := by
  intro w hb
  have hi : i < x.l.length := (List.getElem?_eq_some_iff.1 hy).1
  obtain ⟨g, of, hA, hq⟩ := NodeD.atA E.nodes hi
  have hye : x.l[i] = y := by rw [List.getElem?_eq_getElem hi] at hy; injection hy
  rw [hye] at hq
  have HQ := Lib.hid hq
  have HC := Lib.hid H
  obtain ⟨V, hV, hw, HB, hp⟩ := box1 w (scopeCells p ps) 44
  have HW := Lib.hid hw
  have H0 := Lib.hid (below_step hb hw)
  have hii : (i : Int) < (x.l.length : Int) := by omega
  have HO : Hid (opdB y s = if y.op ≤ 4 then s else ⟨#[40]⟩ ++ s ++ ⟨#[41]⟩) := Lib.hid rfl
  have HP := Lib.hid (rprim_any y.op)
  generalize opdB y s = R at *
  have HAA := Lib.hid hA
  clear hb hy H hq E hye hA hw
  go_enter Tryz.func46, Tryz.ntmps46
  go_upto_region 1 with fail
  rw [← hV]
  clear hV
  go_wp2_with fail
  refine (HC.out _ H0.out).mono ?_
  rintro e w1 ⟨rfl, hb1⟩
  have HB1 := Lib.hid hb1
  have d0 := (HQ.out w1 (below_step H0.out hb1)).1
  simp only [HAA.out]
  clear hb1 HC
  have z1 : ¬ (⟨#[40]⟩ : ByteArray).size + s.size > 9223372036854775807 := by have : (⟨#[40]⟩ : ByteArray).size = 1 := rfl; omega
  have z2 : ¬ 1 + s.size > 9223372036854775807 := by omega
  have z3 : ¬ 1 + s.size + 1 > 9223372036854775807 := by omega
  by_cases h4 : y.op ≤ 4
  · have HR : Hid (R = s) := Lib.hid (by rw [HO.out, if_pos h4])
    have HP2 := Lib.hid (fun u => show Calls Tryz.prog 85 #[.int .i64 y.op] u fun e w' => e = .returned (.bool true) ∧ u = w' from by have := HP.out u hop; rwa [decide_eq_true h4] at this)
    clear h4 hop HP
    go_wp2_with fail
    refine (HP2.out _).mono ?_
    rintro e w' ⟨rfl, rfl⟩
    go_wp2
    go_ret
    exact ⟨ret_s HR.out.symm, below_step HW.out HB1.out⟩
  · have HR : Hid (R = ⟨#[40]⟩ ++ s ++ ⟨#[41]⟩) := Lib.hid (by rw [HO.out, if_neg h4])
    have HP2 := Lib.hid (fun u => show Calls Tryz.prog 85 #[.int .i64 y.op] u fun e w' => e = .returned (.bool false) ∧ u = w' from by have := HP.out u hop; rwa [decide_eq_false h4] at this)
    clear h4 hop HP
    go_wp2_with fail
    refine (HP2.out _).mono ?_
    rintro e w' ⟨rfl, rfl⟩
    go_wp2
    go_ret
    exact ⟨ret_s HR.out.symm, below_step HW.out HB1.out⟩
set_option maxRecDepth 100000 in
set_option maxHeartbeats 8000000 in
theorem rtext_leaf {W : World} {x : L NodeD} {p : ProgD} {ps : L FieldD} {i : Nat} {y0 : NodeD} (E : WEnv W x p ps) (h : x.l[i]? = some y0) (ha : arityM y0.op = 0) (hk : NodeOk p ps.l y0) :
    TxtC W x p ps i (primB p ps.l y0) := by
  intro w hb
  have hi : i < x.l.length := (List.getElem?_eq_some_iff.1 h).1
  obtain ⟨g, of, hA, hq⟩ := NodeD.atA E.nodes hi
  have hye : x.l[i] = y0 := by rw [List.getElem?_eq_getElem hi] at h; injection h
  rw [hye] at hq
  obtain ⟨op, n, wd⟩ := y0
  simp only at hq ha hk
  obtain ⟨V0, hV0, hw0, HB0, hp0⟩ := box1 w (scopeCells p ps) 44
  obtain ⟨d0, d1, d2⟩ := hq V0 (below_step hb hw0)
  obtain ⟨V, hV⟩ : ∃ V, V = V0.alloc (.cells #[.int .i64 op, .int .i64 n, .int .i64 wd] 65) := ⟨_, rfl⟩
  have HV : Hid (Blk V V0.heap.size 65 #[.int .i64 op, .int .i64 n, .int .i64 wd]) := Lib.hid (by rw [hV]; exact Blk.new _ _ _)
  have h0V : Below V0.heap.size V0 V := by rw [hV]; exact below1 _ _
  have HwV : Hid (Below w.heap.size w V) := Lib.hid (below_step hw0 h0V)
  have HBV : Hid (Below W.heap.size W V) := Lib.hid (below_step hb HwV.out)
  have hps := hp0 V h0V
  have hps2 : ∀ u, Below V.heap.size V u → _ := fun u hu => hp0 u (below_step h0V hu)
  have hbk : ∀ u, Below V.heap.size V u → Blk u V0.heap.size 65 #[.int .i64 op, .int .i64 n, .int .i64 wd] := fun u hu => HV.out.below hu HV.out.lt
  have hb0 : ∀ u, Below V.heap.size V u → u.cell? ⟨V0.heap.size, 0, none⟩ = some (.int .i64 op) := fun u hu => (hbk u hu).cell 0
  have hb1 : ∀ u, Below V.heap.size V u → u.cell? ⟨V0.heap.size, 1, none⟩ = some (.int .i64 n) := fun u hu => (hbk u hu).cell 1
  have hb2 : ∀ u, Below V.heap.size V u → u.cell? ⟨V0.heap.size, 2, none⟩ = some (.int .i64 wd) := fun u hu => (hbk u hu).cell 2
  have b0 := hb0 V (Below.refl _ _)
  have b1 := hb1 V (Below.refl _ _)
  have b2 := hb2 V (Below.refl _ _)
  have hii : (i : Int) < (x.l.length : Int) := by omega
  have hmi := E.nodes.1
  unfold maxLen at hmi
  have H0 := Lib.hid (Below.refl V.heap.size V)
  have HE := Lib.hid E
  have HAA := Lib.hid hA
  clear hA
  rcases arity0 ha with rfl | rfl | rfl | rfl
  · obtain ⟨⟨n0, n1⟩, w0, w1⟩ : (0 ≤ n ∧ n ≤ 4294967295) ∧ 1 ≤ wd ∧ wd ≤ 32 := hk.c1 rfl
    have HR : Hid (primB p ps.l ⟨1, n, wd⟩ = decB n ++ ⟨#[58]⟩ ++ decB wd) := Lib.hid rfl
    rw [HR.out]
    have q1 := dec_size n
    have q2 := dec_size wd
    have z0 : (⟨#[58]⟩ : ByteArray).size = 1 := rfl
    have z1 : ¬ (decB n).size + 1 > 9223372036854775807 := by omega
    have z2 : ¬ (decB n).size + 1 + (decB wd).size > 9223372036854775807 := by omega
    clear hk h ha E HR
    clear hp0 hbk h0V hw0 HB0 hq hb hye hi
    go_enter Tryz.func23, Tryz.ntmps23
    go_upto_region 1 with fail
    rw [← hV0]
    clear hV0
    simp only [HAA.out]
    go_upto_region 2 with fail
    rw [← hV]
    clear hV d0 d1 d2
    go_upto_region 4 with fail
    clear b0 b1 b2 hps
    go_region_held3 (fun w' => Below V.heap.size V w') (first | exact H0.out | exact below_drew H0.out | (exact below_step (by assumption) (by assumption)) | assumption)
      (first
      | (go_at_call 44; refine (rdec_any _ (by omega) (by omega) _).mono ?_; rintro r w5 ⟨rfl, hb5⟩))
    all_goals
      have HB5 : Hid (Below V.heap.size V _) := Lib.hid (by assumption)
      go_wp2
      go_ret
      exact ⟨rfl, below_step HwV.out HB5.out⟩
  · obtain ⟨hn, w0, w1⟩ : (n = -1 ∨ (0 ≤ n ∧ n.toNat < p.headers.l.length)) ∧ 0 ≤ wd ∧ wd.toNat < (fldsL p n).l.length := hk.c2 rfl
    obtain ⟨f, rfl⟩ : ∃ f : Nat, wd = f := ⟨wd.toNat, (Int.toNat_of_nonneg w0).symm⟩
    have hf : f < (fldsL p n).l.length := by simpa using w1
    have hfi : (f : Int) < ((fldsL p n).l.length : Int) := by omega
    have hF : LOk W 2 FieldD.cells (fldsL p n) ∧ ∀ z ∈ (fldsL p n).l, z.name.size ≤ 1000 := by
      rcases hn with rfl | ⟨h0, h1⟩
      · exact ⟨E.prog.metadata, E.nm.met⟩
      · obtain ⟨k, rfl⟩ : ∃ k : Nat, n = k := ⟨n.toNat, (Int.toNat_of_nonneg h0).symm⟩
        have hk1 : k < p.headers.l.length := by simpa using h1
        rw [(hdr_at' p hk1).2]
        exact ⟨(E.prog.hdr _ (List.getElem_mem hk1)).fields, E.nm.fld _ (List.getElem_mem hk1)⟩
    have hhs : (hdrB p n).size ≤ 1000 := by
      rcases hn with rfl | ⟨h0, h1⟩
      · exact (by decide : metaName.size ≤ 1000)
      · obtain ⟨k, rfl⟩ : ∃ k : Nat, n = k := ⟨n.toNat, (Int.toNat_of_nonneg h0).symm⟩
        have hk1 : k < p.headers.l.length := by simpa using h1
        rw [(hdr_at' p hk1).1]; exact E.nm.hdr _ (List.getElem_mem hk1)
    have HH := Lib.hid (fun u (hb : Below V.heap.size V u) => rheader_any p ps n u (E.prog.below (below_step HBV.out hb)) hn)
    have HF := Lib.hid (fun u (hb : Below V.heap.size V u) => rfields_any p ps n u (E.prog.below (below_step HBV.out hb)) hn)
    have HR : Hid (primB p ps.l ⟨2, n, f⟩ = hdrB p n ++ ⟨#[46]⟩ ++ (fldsL p n).l[f].name) := Lib.hid (by rw [← fld_at' hf]; rfl)
    rw [HR.out]
    have hfs := hF.2 _ (List.getElem_mem hf)
    obtain ⟨gf, og, hAf, hallf⟩ := FieldD.atA hF.1 hf
    have hdf : ∀ u, Below V.heap.size V u → _ := fun u hu => (hallf u (below_step HBV.out hu)).1
    clear hF hn hallf
    generalize fldsL p n = F at *
    simp only [hAf] at HF
    generalize F.l[f].name = nm at *
    generalize hdrB p n = hd at *
    generalize F.l.length = fl at *
    generalize F.c = fc at *
    clear hAf
    have z0 : (⟨#[46]⟩ : ByteArray).size = 1 := rfl
    have z1 : ¬ hd.size + (⟨#[46]⟩ : ByteArray).size > 9223372036854775807 := by omega
    have z2 : ¬ hd.size + 1 > 9223372036854775807 := by omega
    have z3 : ¬ (hd ++ ⟨#[46]⟩).size + nm.size > 9223372036854775807 := by simp only [ByteArray.size_append]; omega
    have z4 : ¬ hd.size + 1 + nm.size > 9223372036854775807 := by omega
    clear hk h ha E HR
    clear hp0 hbk h0V hw0 HB0 hq hb hye hi
    go_enter Tryz.func23, Tryz.ntmps23
    go_upto_region 1 with fail
    rw [← hV0]
    clear hV0
    simp only [HAA.out]
    go_upto_region 2 with fail
    rw [← hV]
    clear hV d0 d1 d2
    go_upto_region 6 with fail
    clear b0 b1 b2 hps
    go_region_held3 (fun w' => Below V.heap.size V w') (first | exact H0.out | exact below_drew H0.out | (exact below_step (by assumption) (by assumption)) | assumption)
      (first
      | (go_at_call 45; refine (HH.out _ (by assumption)).mono ?_; rintro r w5 ⟨rfl, hb5⟩)
      | (go_at_call 40; refine (HF.out _ (by assumption)).mono ?_; rintro r w6 ⟨rfl, hb6⟩))
    all_goals
      have HB5 : Hid (Below V.heap.size V _) := Lib.hid (by assumption)
      go_wp2
      go_ret
      exact ⟨rfl, below_step HwV.out HB5.out⟩
  · obtain ⟨n0, n1⟩ : 0 ≤ n ∧ n.toNat < ps.l.length := hk.c3 rfl
    obtain ⟨k, rfl⟩ : ∃ k : Nat, n = k := ⟨n.toNat, (Int.toNat_of_nonneg n0).symm⟩
    have hk1 : k < ps.l.length := by simpa using n1
    have hki : (k : Int) < (ps.l.length : Int) := by omega
    obtain ⟨gp, og, hAp, hallp⟩ := FieldD.atA E.pars hk1
    have hdp := (hallp V HBV.out).1
    have hns := E.nm.par _ (List.getElem_mem hk1)
    have HR : Hid (primB p ps.l ⟨3, k, wd⟩ = ⟨#[64]⟩ ++ ps.l[k].name) := Lib.hid (by rw [← fld_at' hk1]; rfl)
    rw [HR.out]
    clear hk h ha E HR hallp
    generalize ps.l[k].name = nm at *
    have z0 : (⟨#[64]⟩ : ByteArray).size = 1 := rfl
    have z1 : ¬ (⟨#[64]⟩ : ByteArray).size + nm.size > 9223372036854775807 := by omega
    have z2 : ¬ 1 + nm.size > 9223372036854775807 := by omega
    clear hp0 hbk h0V hw0 HB0 hq hb hye hi
    go_enter Tryz.func23, Tryz.ntmps23
    go_upto_region 1 with fail
    rw [← hV0]
    clear hV0
    simp only [HAA.out]
    go_upto_region 2 with fail
    rw [← hV]
    clear hV d0 d1 d2
    simp only [scopeCells, hAp] at hps ⊢
    clear hps2 hb0 hb1 hb2 hAp
    go_wp2
    go_ret
    exact ⟨rfl, HwV.out⟩
  · obtain ⟨n0, n1⟩ : 0 ≤ n ∧ n.toNat < p.headers.l.length := hk.c4 rfl
    have hhs : (hdrB p n).size ≤ 1000 := by
      obtain ⟨k, rfl⟩ : ∃ k : Nat, n = k := ⟨n.toNat, (Int.toNat_of_nonneg n0).symm⟩
      have hk1 : k < p.headers.l.length := by simpa using n1
      rw [(hdr_at' p hk1).1]; exact E.nm.hdr _ (List.getElem_mem hk1)
    have HH := Lib.hid (fun u (hb : Below V.heap.size V u) => rheader_any p ps n u (E.prog.below (below_step HBV.out hb)) (.inr ⟨n0, n1⟩))
    have HR : Hid (primB p ps.l ⟨4, n, wd⟩ = ⟨#[118, 97, 108, 105, 100, 40]⟩ ++ hdrB p n ++ ⟨#[41]⟩) := Lib.hid rfl
    rw [HR.out]
    generalize hdrB p n = hd at *
    have z0 : (⟨#[118, 97, 108, 105, 100, 40]⟩ : ByteArray).size = 6 := rfl
    have z1 : ¬ (⟨#[118, 97, 108, 105, 100, 40]⟩ : ByteArray).size + hd.size > 9223372036854775807 := by omega
    have z2 : ¬ 6 + hd.size > 9223372036854775807 := by omega
    have z3 : ¬ 6 + hd.size + 1 > 9223372036854775807 := by omega
    clear hk h ha E HR
    clear hp0 hbk h0V hw0 HB0 hq hb hye hi
    go_enter Tryz.func23, Tryz.ntmps23
    go_upto_region 1 with fail
    rw [← hV0]
    clear hV0
    simp only [HAA.out]
    go_upto_region 2 with fail
    rw [← hV]
    clear hV d0 d1 d2
    clear hps2 hb0 hb1 hb2
    go_wp2_with fail
    refine (HH.out _ H0.out).mono ?_
    rintro e w1 ⟨rfl, hB1⟩
    have HB1 := Lib.hid hB1
    clear hB1
    go_wp2
    go_ret
    exact ⟨rfl, below_step HwV.out HB1.out⟩
end Go.Proofs.YtpomjcndeanjgaaGreatDoor
namespace Go.Proofs.YtpomjcndeanjgaaGreatDoor
open Go.RowKit
set_option maxRecDepth 100000 in
set_option maxHeartbeats 8000000 in
theorem rtext_un {W : World} {x : L NodeD} {p : ProgD} {ps : L FieldD} {i : Nat} {y0 : NodeD} {a : ByteArray} (E : WEnv W x p ps) (h : x.l[i]? = some y0) (ha : arityM y0.op = 1) (hk : NodeOk p ps.l y0) (hs : a.size ≤ 1000000)
    (H1 : ROpdC W x p ps (i + 1) a) : TxtC W x p ps i (unB y0 a) := by
  intro w hb
  have hi : i < x.l.length := (List.getElem?_eq_some_iff.1 h).1
  obtain ⟨g, of, hA, hq⟩ := NodeD.atA E.nodes hi
  have hye : x.l[i] = y0 := by rw [List.getElem?_eq_getElem hi] at h; injection h
  rw [hye] at hq
  obtain ⟨op, n, wd⟩ := y0
  simp only at hq ha hk
  obtain ⟨V0, hV0, hw0, HB0, hp0⟩ := box1 w (scopeCells p ps) 44
  obtain ⟨d0, d1, d2⟩ := hq V0 (below_step hb hw0)
  obtain ⟨V, hV⟩ : ∃ V, V = V0.alloc (.cells #[.int .i64 op, .int .i64 n, .int .i64 wd] 65) := ⟨_, rfl⟩
  have HV : Hid (Blk V V0.heap.size 65 #[.int .i64 op, .int .i64 n, .int .i64 wd]) := Lib.hid (by rw [hV]; exact Blk.new _ _ _)
  have h0V : Below V0.heap.size V0 V := by rw [hV]; exact below1 _ _
  have HwV : Hid (Below w.heap.size w V) := Lib.hid (below_step hw0 h0V)
  have HBV : Hid (Below W.heap.size W V) := Lib.hid (below_step hb HwV.out)
  have hps := hp0 V h0V
  have hps2 : ∀ u, Below V.heap.size V u → _ := fun u hu => hp0 u (below_step h0V hu)
  have hbk : ∀ u, Below V.heap.size V u → Blk u V0.heap.size 65 #[.int .i64 op, .int .i64 n, .int .i64 wd] := fun u hu => HV.out.below hu HV.out.lt
  have hb0 : ∀ u, Below V.heap.size V u → u.cell? ⟨V0.heap.size, 0, none⟩ = some (.int .i64 op) := fun u hu => (hbk u hu).cell 0
  have hb1 : ∀ u, Below V.heap.size V u → u.cell? ⟨V0.heap.size, 1, none⟩ = some (.int .i64 n) := fun u hu => (hbk u hu).cell 1
  have hb2 : ∀ u, Below V.heap.size V u → u.cell? ⟨V0.heap.size, 2, none⟩ = some (.int .i64 wd) := fun u hu => (hbk u hu).cell 2
  have b0 := hb0 V (Below.refl _ _)
  have b1 := hb1 V (Below.refl _ _)
  have b2 := hb2 V (Below.refl _ _)
  have hii : (i : Int) < (x.l.length : Int) := by omega
  have hmi := E.nodes.1
  unfold maxLen at hmi
  have H0 := Lib.hid (Below.refl V.heap.size V)
  have hwr : IntKind.i64.wrap ((i : Int) + 1) = ((i + 1 : Nat) : Int) := by rw [IntWalk.i64_in _ (by omega)]; rfl
  have HC := Lib.hid (fun u (hb : Below V.heap.size V u) => show Calls Tryz.prog 46 #[.slice x.A x.l.length x.c, .int .i64 (IntKind.i64.wrap ((i : Int) + 1)), .agg (scopeCells p ps)] u fun e w' => e = .returned (.string a) ∧ Below u.heap.size u w' from by rw [hwr]; exact H1 u (below_step HBV.out hb))
  have HC0 := Lib.hid (fun u (hb : Below V.heap.size V u) => show Calls Tryz.prog 46 #[.slice x.A x.l.length x.c, .int .i64 ((i : Int) + 1), .agg (scopeCells p ps)] u fun e w' => e = .returned (.string a) ∧ Below u.heap.size u w' from by exact H1 u (below_step HBV.out hb))
  clear hwr
  have HAA := Lib.hid hA
  simp only [hA] at HC HC0
  clear hA
  have q1 := dec_size n
  have q2 := dec_size wd
  have z01 : (⟨#[126]⟩ : ByteArray).size = 1 := rfl
  have z02 : (⟨#[32, 60, 60, 32]⟩ : ByteArray).size = 4 := rfl
  have z03 : (⟨#[32, 62, 62, 32]⟩ : ByteArray).size = 4 := rfl
  have z04 : (⟨#[91]⟩ : ByteArray).size = 1 := rfl
  have z05 : (⟨#[43]⟩ : ByteArray).size = 1 := rfl
  have z06 : (⟨#[93]⟩ : ByteArray).size = 1 := rfl
  have z1 : ¬ (⟨#[126]⟩ : ByteArray).size + a.size > 9223372036854775807 := by omega
  have z2 : ¬ 1 + a.size > 9223372036854775807 := by omega
  have z3 : ¬ a.size + 4 > 9223372036854775807 := by omega
  have z4 : ¬ a.size + 4 + (decB n).size > 9223372036854775807 := by omega
  have z5 : ¬ a.size + 1 > 9223372036854775807 := by omega
  have z6 : ¬ a.size + 1 + (decB n).size > 9223372036854775807 := by omega
  have z7 : ¬ a.size + 1 + (decB n).size + 1 > 9223372036854775807 := by omega
  have z8 : ¬ a.size + 1 + (decB n).size + 1 + (decB wd).size > 9223372036854775807 := by omega
  have z9 : ¬ a.size + 1 + (decB n).size + 1 + (decB wd).size + 1 > 9223372036854775807 := by omega
  rcases arity1 ha with rfl | rfl | rfl | rfl
  · have HR : Hid (unB ⟨5, n, wd⟩ a = ⟨#[126]⟩ ++ a) := Lib.hid rfl
    rw [HR.out]
    clear hk h ha E HR HC H1
    clear hp0 hbk h0V hw0 HB0 hq hb hye hi
    go_enter Tryz.func23, Tryz.ntmps23
    go_upto_region 1 with fail
    rw [← hV0]
    clear hV0
    simp only [HAA.out]
    go_upto_region 2 with fail
    rw [← hV]
    clear hV d0 d1 d2
    clear hps2 hb0 hb1 hb2
    go_wp2_with fail
    refine (HC0.out _ H0.out).mono ?_
    rintro e w1 ⟨rfl, hB1⟩
    have HB1 := Lib.hid hB1
    clear hB1
    go_wp2
    go_ret
    exact ⟨rfl, below_step HwV.out HB1.out⟩
  · have HR : Hid (unB ⟨6, n, wd⟩ a = a ++ ⟨#[32, 60, 60, 32]⟩ ++ decB n) := Lib.hid rfl
    rw [HR.out]
    obtain ⟨n0, n1⟩ : 0 ≤ n ∧ n ≤ 31 := hk.c6 (.inl rfl)
    clear hk h ha E HR HC0 H1
    clear hp0 hbk h0V hw0 HB0 hq hb hye hi
    go_enter Tryz.func23, Tryz.ntmps23
    go_upto_region 1 with fail
    rw [← hV0]
    clear hV0
    simp only [HAA.out]
    go_upto_region 2 with fail
    rw [← hV]
    clear hV d0 d1 d2
    go_upto_region 14 with fail
    clear b0 b1 b2 hps
    go_region_held3 (fun w' => Below V.heap.size V w') (first | exact H0.out | exact below_drew H0.out | (exact below_step (by assumption) (by assumption)) | assumption)
      (first
      | (go_at_call 46; refine (HC.out _ (by assumption)).mono ?_; rintro r w4 ⟨rfl, hb4⟩)
      | (go_at_call 44; refine (rdec_any _ (by omega) (by omega) _).mono ?_; rintro r w5 ⟨rfl, hb5⟩))
    all_goals
      have HB5 : Hid (Below V.heap.size V _) := Lib.hid (by assumption)
      go_wp2
      go_ret
      exact ⟨rfl, below_step HwV.out HB5.out⟩
  · have HR : Hid (unB ⟨7, n, wd⟩ a = a ++ ⟨#[32, 62, 62, 32]⟩ ++ decB n) := Lib.hid rfl
    rw [HR.out]
    obtain ⟨n0, n1⟩ : 0 ≤ n ∧ n ≤ 31 := hk.c6 (.inr rfl)
    clear hk h ha E HR HC0 H1
    clear hp0 hbk h0V hw0 HB0 hq hb hye hi
    go_enter Tryz.func23, Tryz.ntmps23
    go_upto_region 1 with fail
    rw [← hV0]
    clear hV0
    simp only [HAA.out]
    go_upto_region 2 with fail
    rw [← hV]
    clear hV d0 d1 d2
    go_upto_region 16 with fail
    clear b0 b1 b2 hps
    go_region_held3 (fun w' => Below V.heap.size V w') (first | exact H0.out | exact below_drew H0.out | (exact below_step (by assumption) (by assumption)) | assumption)
      (first
      | (go_at_call 46; refine (HC.out _ (by assumption)).mono ?_; rintro r w4 ⟨rfl, hb4⟩)
      | (go_at_call 44; refine (rdec_any _ (by omega) (by omega) _).mono ?_; rintro r w5 ⟨rfl, hb5⟩))
    all_goals
      have HB5 : Hid (Below V.heap.size V _) := Lib.hid (by assumption)
      go_wp2
      go_ret
      exact ⟨rfl, below_step HwV.out HB5.out⟩
  · have HR : Hid (unB ⟨8, n, wd⟩ a = a ++ ⟨#[91]⟩ ++ decB n ++ ⟨#[43]⟩ ++ decB wd ++ ⟨#[93]⟩) := Lib.hid rfl
    rw [HR.out]
    obtain ⟨⟨n0, n1⟩, w0, w1⟩ : (0 ≤ n ∧ n ≤ 32) ∧ 1 ≤ wd ∧ wd ≤ 32 := hk.c8 rfl
    clear hk h ha E HR HC0 H1
    clear hp0 hbk h0V hw0 HB0 hq hb hye hi
    go_enter Tryz.func23, Tryz.ntmps23
    go_upto_region 1 with fail
    rw [← hV0]
    clear hV0
    simp only [HAA.out]
    go_upto_region 2 with fail
    rw [← hV]
    clear hV d0 d1 d2
    go_upto_region 18 with fail
    clear b0 b1 b2 hps
    go_region_held3 (fun w' => Below V.heap.size V w') (first | exact H0.out | exact below_drew H0.out | (exact below_step (by assumption) (by assumption)) | assumption)
      (first
      | (go_at_call 46; refine (HC.out _ (by assumption)).mono ?_; rintro r w4 ⟨rfl, hb4⟩)
      | (go_at_call 44; refine (rdec_any _ (by omega) (by omega) _).mono ?_; rintro r w5 ⟨rfl, hb5⟩))
    all_goals
      have HB5 : Hid (Below V.heap.size V _) := Lib.hid (by assumption)
      go_wp2
      go_ret
      exact ⟨rfl, below_step HwV.out HB5.out⟩
set_option maxRecDepth 100000 in
set_option maxHeartbeats 8000000 in
theorem rtext_bi {W : World} {x : L NodeD} {p : ProgD} {ps : L FieldD} {i j1 : Nat} {y0 : NodeD} {a b : ByteArray} (E : WEnv W x p ps) (h : x.l[i]? = some y0) (ha : arityM y0.op = 2) (hs : a.size ≤ 1000000) (hs2 : b.size ≤ 1000000)
    (hi1 : i + 1 < x.l.length) (hj : i + 1 ≤ j1) (e1 : endM (x.l.drop (i + 1)) 1 = some (j1 - (i + 1))) (H1 : ROpdC W x p ps (i + 1) a) (H2 : ROpdC W x p ps j1 b) : TxtC W x p ps i (biB y0 a b) := by
  intro w hb
  have hi : i < x.l.length := (List.getElem?_eq_some_iff.1 h).1
  obtain ⟨g, of, hA, hq⟩ := NodeD.atA E.nodes hi
  have hye : x.l[i] = y0 := by rw [List.getElem?_eq_getElem hi] at h; injection h
  rw [hye] at hq
  obtain ⟨op, n, wd⟩ := y0
  simp only at hq ha
  obtain ⟨V0, hV0, hw0, HB0, hp0⟩ := box1 w (scopeCells p ps) 44
  obtain ⟨d0, d1, d2⟩ := hq V0 (below_step hb hw0)
  obtain ⟨V, hV⟩ : ∃ V, V = V0.alloc (.cells #[.int .i64 op, .int .i64 n, .int .i64 wd] 65) := ⟨_, rfl⟩
  have HV : Hid (Blk V V0.heap.size 65 #[.int .i64 op, .int .i64 n, .int .i64 wd]) := Lib.hid (by rw [hV]; exact Blk.new _ _ _)
  have h0V : Below V0.heap.size V0 V := by rw [hV]; exact below1 _ _
  have HwV : Hid (Below w.heap.size w V) := Lib.hid (below_step hw0 h0V)
  have HBV : Hid (Below W.heap.size W V) := Lib.hid (below_step hb HwV.out)
  have hps := hp0 V h0V
  have hps2 : ∀ u, Below V.heap.size V u → _ := fun u hu => hp0 u (below_step h0V hu)
  have hbk : ∀ u, Below V.heap.size V u → Blk u V0.heap.size 65 #[.int .i64 op, .int .i64 n, .int .i64 wd] := fun u hu => HV.out.below hu HV.out.lt
  have hb0 : ∀ u, Below V.heap.size V u → u.cell? ⟨V0.heap.size, 0, none⟩ = some (.int .i64 op) := fun u hu => (hbk u hu).cell 0
  have hb1 : ∀ u, Below V.heap.size V u → u.cell? ⟨V0.heap.size, 1, none⟩ = some (.int .i64 n) := fun u hu => (hbk u hu).cell 1
  have hb2 : ∀ u, Below V.heap.size V u → u.cell? ⟨V0.heap.size, 2, none⟩ = some (.int .i64 wd) := fun u hu => (hbk u hu).cell 2
  have b0 := hb0 V (Below.refl _ _)
  have b1 := hb1 V (Below.refl _ _)
  have b2 := hb2 V (Below.refl _ _)
  have hii : (i : Int) < (x.l.length : Int) := by omega
  have hmi := E.nodes.1
  unfold maxLen at hmi
  have H0 := Lib.hid (Below.refl V.heap.size V)
  have hwr : IntKind.i64.wrap ((i : Int) + 1) = ((i + 1 : Nat) : Int) := by rw [IntWalk.i64_in _ (by omega)]; rfl
  have HC := Lib.hid (fun u (hb : Below V.heap.size V u) => show Calls Tryz.prog 46 #[.slice x.A x.l.length x.c, .int .i64 (IntKind.i64.wrap ((i : Int) + 1)), .agg (scopeCells p ps)] u fun e w' => e = .returned (.string a) ∧ Below u.heap.size u w' from by rw [hwr]; exact H1 u (below_step HBV.out hb))
  have HC2 := Lib.hid (fun u (hb : Below V.heap.size V u) => show Calls Tryz.prog 46 #[.slice x.A x.l.length x.c, .int .i64 j1, .agg (scopeCells p ps)] u fun e w' => e = .returned (.string b) ∧ Below u.heap.size u w' from by exact H2 u (below_step HBV.out hb))
  have HN1 := Lib.hid (fun u (hb : Below V.heap.size V u) => show Calls Tryz.prog 47 #[.slice x.A x.l.length x.c, .int .i64 ((i : Int) + 1)] u fun e w' => e = .returned (.int .i64 j1) ∧ u = w' from rend_any x (i + 1) j1 u (E.nodes.below (below_step HBV.out hb) (Nat.le_refl _)) (by omega) e1 (by omega))
  clear hwr
  have HAA := Lib.hid hA
  simp only [hA] at HC HC2 HN1
  clear hA
  have hop := arity2 ha
  have t1 : (op == 1) = false := beq_eq_false_iff_ne.2 (by omega)
  have t2 : (op == 2) = false := beq_eq_false_iff_ne.2 (by omega)
  have t3 : (op == 3) = false := beq_eq_false_iff_ne.2 (by omega)
  have t4 : (op == 4) = false := beq_eq_false_iff_ne.2 (by omega)
  have t5 : (op == 5) = false := beq_eq_false_iff_ne.2 (by omega)
  have t6 : (op == 6) = false := beq_eq_false_iff_ne.2 (by omega)
  have t7 : (op == 7) = false := beq_eq_false_iff_ne.2 (by omega)
  have t8 : (op == 8) = false := beq_eq_false_iff_ne.2 (by omega)
  have t17 : (op == 17) = false := beq_eq_false_iff_ne.2 (by omega)
  have q1 := sym_size op
  have z0 : (⟨#[32]⟩ : ByteArray).size = 1 := rfl
  have HR : Hid (biB ⟨op, n, wd⟩ a b = a ++ ⟨#[32]⟩ ++ symB op ++ ⟨#[32]⟩ ++ b) := Lib.hid rfl
  rw [HR.out]
  have z1 : ¬ a.size + 1 > 9223372036854775807 := by omega
  have z2 : ¬ a.size + 1 + (symB op).size > 9223372036854775807 := by omega
  have z3 : ¬ a.size + 1 + (symB op).size + 1 > 9223372036854775807 := by omega
  have z4 : ¬ a.size + 1 + (symB op).size + 1 + b.size > 9223372036854775807 := by omega
  clear h ha E HR H1 H2 hop e1
  clear hp0 hbk h0V hw0 HB0 hq hb hye hi
  go_enter Tryz.func23, Tryz.ntmps23
  go_upto_region 1 with fail
  rw [← hV0]
  clear hV0
  simp only [HAA.out]
  go_upto_region 2 with fail
  rw [← hV]
  clear hV d0 d1 d2
  go_wp2_with fail
  refine (HN1.out _ H0.out).mono ?_
  rintro e w' ⟨rfl, rfl⟩
  go_upto_region 23 with fail
  clear b0 b1 b2 hps
  go_region_held3 (fun w' => Below V.heap.size V w') (first | exact H0.out | exact below_drew H0.out | (exact below_step (by assumption) (by assumption)) | assumption)
    (first
    | (go_at_call 46; refine (HC.out _ (by assumption)).mono ?_; clear HC; rintro r w4 ⟨rfl, hb4⟩)
    | (go_at_call 46; refine (HC2.out _ (by assumption)).mono ?_; rintro r w6 ⟨rfl, hb6⟩)
    | (go_at_call 48; refine (rsymbol_any _ _).mono ?_; rintro r w5 ⟨rfl, rfl⟩))
  all_goals
    have HB5 : Hid (Below V.heap.size V _) := Lib.hid (by assumption)
    go_wp2
    go_ret
    exact ⟨rfl, below_step HwV.out HB5.out⟩
set_option maxRecDepth 100000 in
set_option maxHeartbeats 8000000 in
theorem rtext_tri {W : World} {x : L NodeD} {p : ProgD} {ps : L FieldD} {i j1 j2 : Nat} {y0 : NodeD} {a b c : ByteArray} (E : WEnv W x p ps) (h : x.l[i]? = some y0) (ha : arityM y0.op = 3) (hs : a.size ≤ 1000000) (hs2 : b.size ≤ 1000000) (hs3 : c.size ≤ 1000000)
    (hi1 : i + 1 < x.l.length) (hj : i + 1 ≤ j1) (e1 : endM (x.l.drop (i + 1)) 1 = some (j1 - (i + 1))) (hi2 : j1 < x.l.length) (hj2 : j1 ≤ j2) (e2 : endM (x.l.drop j1) 1 = some (j2 - j1))
    (H1 : ROpdC W x p ps (i + 1) a) (H2 : ROpdC W x p ps j1 b) (H3 : ROpdC W x p ps j2 c) : TxtC W x p ps i (triB a b c) := by
  intro w hb
  have hi : i < x.l.length := (List.getElem?_eq_some_iff.1 h).1
  obtain ⟨g, of, hA, hq⟩ := NodeD.atA E.nodes hi
  have hye : x.l[i] = y0 := by rw [List.getElem?_eq_getElem hi] at h; injection h
  rw [hye] at hq
  obtain ⟨op, n, wd⟩ := y0
  simp only at hq ha
  obtain ⟨V0, hV0, hw0, HB0, hp0⟩ := box1 w (scopeCells p ps) 44
  obtain ⟨d0, d1, d2⟩ := hq V0 (below_step hb hw0)
  obtain ⟨V, hV⟩ : ∃ V, V = V0.alloc (.cells #[.int .i64 op, .int .i64 n, .int .i64 wd] 65) := ⟨_, rfl⟩
  have HV : Hid (Blk V V0.heap.size 65 #[.int .i64 op, .int .i64 n, .int .i64 wd]) := Lib.hid (by rw [hV]; exact Blk.new _ _ _)
  have h0V : Below V0.heap.size V0 V := by rw [hV]; exact below1 _ _
  have HwV : Hid (Below w.heap.size w V) := Lib.hid (below_step hw0 h0V)
  have HBV : Hid (Below W.heap.size W V) := Lib.hid (below_step hb HwV.out)
  have hps := hp0 V h0V
  have hps2 : ∀ u, Below V.heap.size V u → _ := fun u hu => hp0 u (below_step h0V hu)
  have hbk : ∀ u, Below V.heap.size V u → Blk u V0.heap.size 65 #[.int .i64 op, .int .i64 n, .int .i64 wd] := fun u hu => HV.out.below hu HV.out.lt
  have hb0 : ∀ u, Below V.heap.size V u → u.cell? ⟨V0.heap.size, 0, none⟩ = some (.int .i64 op) := fun u hu => (hbk u hu).cell 0
  have hb1 : ∀ u, Below V.heap.size V u → u.cell? ⟨V0.heap.size, 1, none⟩ = some (.int .i64 n) := fun u hu => (hbk u hu).cell 1
  have hb2 : ∀ u, Below V.heap.size V u → u.cell? ⟨V0.heap.size, 2, none⟩ = some (.int .i64 wd) := fun u hu => (hbk u hu).cell 2
  have b0 := hb0 V (Below.refl _ _)
  have b1 := hb1 V (Below.refl _ _)
  have b2 := hb2 V (Below.refl _ _)
  have hii : (i : Int) < (x.l.length : Int) := by omega
  have hmi := E.nodes.1
  unfold maxLen at hmi
  have H0 := Lib.hid (Below.refl V.heap.size V)
  have hwr : IntKind.i64.wrap ((i : Int) + 1) = ((i + 1 : Nat) : Int) := by rw [IntWalk.i64_in _ (by omega)]; rfl
  have HC := Lib.hid (fun u (hb : Below V.heap.size V u) => show Calls Tryz.prog 46 #[.slice x.A x.l.length x.c, .int .i64 (IntKind.i64.wrap ((i : Int) + 1)), .agg (scopeCells p ps)] u fun e w' => e = .returned (.string a) ∧ Below u.heap.size u w' from by rw [hwr]; exact H1 u (below_step HBV.out hb))
  have HC2 := Lib.hid (fun u (hb : Below V.heap.size V u) => show Calls Tryz.prog 46 #[.slice x.A x.l.length x.c, .int .i64 j1, .agg (scopeCells p ps)] u fun e w' => e = .returned (.string b) ∧ Below u.heap.size u w' from by exact H2 u (below_step HBV.out hb))
  have HC3 := Lib.hid (fun u (hb : Below V.heap.size V u) => show Calls Tryz.prog 46 #[.slice x.A x.l.length x.c, .int .i64 j2, .agg (scopeCells p ps)] u fun e w' => e = .returned (.string c) ∧ Below u.heap.size u w' from by exact H3 u (below_step HBV.out hb))
  have HN1 := Lib.hid (fun u (hb : Below V.heap.size V u) => show Calls Tryz.prog 47 #[.slice x.A x.l.length x.c, .int .i64 ((i : Int) + 1)] u fun e w' => e = .returned (.int .i64 j1) ∧ u = w' from rend_any x (i + 1) j1 u (E.nodes.below (below_step HBV.out hb) (Nat.le_refl _)) (by omega) e1 (by omega))
  have HN2 := Lib.hid (fun u (hb : Below V.heap.size V u) => show Calls Tryz.prog 47 #[.slice x.A x.l.length x.c, .int .i64 j1] u fun e w' => e = .returned (.int .i64 j2) ∧ u = w' from rend_any x j1 j2 u (E.nodes.below (below_step HBV.out hb) (Nat.le_refl _)) (by omega) e2 (by omega))
  clear hwr
  have HAA := Lib.hid hA
  simp only [hA] at HC HC2 HC3 HN1 HN2
  clear hA
  obtain rfl := arity3 ha
  have HR : Hid (triB a b c = a ++ ⟨#[32, 63, 32]⟩ ++ b ++ ⟨#[32, 58, 32]⟩ ++ c) := Lib.hid rfl
  rw [HR.out]
  have z0 : (⟨#[32, 63, 32]⟩ : ByteArray).size = 3 := rfl
  have z00 : (⟨#[32, 58, 32]⟩ : ByteArray).size = 3 := rfl
  have z1 : ¬ a.size + 3 > 9223372036854775807 := by omega
  have z2 : ¬ a.size + 3 + b.size > 9223372036854775807 := by omega
  have z3 : ¬ a.size + 3 + b.size + 3 > 9223372036854775807 := by omega
  have z4 : ¬ a.size + 3 + b.size + 3 + c.size > 9223372036854775807 := by omega
  clear h ha E HR H1 H2 H3 e1 e2
  clear hp0 hbk h0V hw0 HB0 hq hb hye hi
  go_enter Tryz.func23, Tryz.ntmps23
  go_upto_region 1 with fail
  rw [← hV0]
  clear hV0
  simp only [HAA.out]
  go_upto_region 2 with fail
  rw [← hV]
  clear hV d0 d1 d2
  go_wp2_with fail
  refine (HN1.out _ H0.out).mono ?_
  rintro e w' ⟨rfl, rfl⟩
  go_wp2_with fail
  refine (HN2.out _ H0.out).mono ?_
  rintro e w' ⟨rfl, rfl⟩
  go_upto_region 22 with fail
  clear b0 b1 b2 hps
  go_region_held3 (fun w' => Below V.heap.size V w') (first | exact H0.out | exact below_drew H0.out | (exact below_step (by assumption) (by assumption)) | assumption)
    (first
    | (go_at_call 46; refine (HC.out _ (by assumption)).mono ?_; clear HC; rintro r w4 ⟨rfl, hb4⟩)
    | (go_at_call 46; refine (HC2.out _ (by assumption)).mono ?_; clear HC2; rintro r w5 ⟨rfl, hb5⟩)
    | (go_at_call 46; refine (HC3.out _ (by assumption)).mono ?_; rintro r w6 ⟨rfl, hb6⟩))
  all_goals
    have HB5 : Hid (Below V.heap.size V _) := Lib.hid (by assumption)
    go_wp2
    go_ret
    exact ⟨rfl, below_step HwV.out HB5.out⟩
theorem nodeok_op {p : ProgD} {ps : List FieldD} {l : List NodeD} {i j : Nat} {s : ByteArray} {y : NodeD} (h : Tx p ps l i j s) (hy : l[i]? = some y) : 1 ≤ y.op ∧ y.op ≤ 17 := by
  cases h with
  | leaf h ha _ => rw [h] at hy; injection hy with hy; subst hy; have := arity0 ha; omega
  | un h ha _ _ _ => rw [h] at hy; injection hy with hy; subst hy; have := arity1 ha; omega
  | bi h ha _ _ _ _ _ => rw [h] at hy; injection hy with hy; subst hy; have := arity2 ha; omega
  | tri h ha _ _ _ _ _ _ _ => rw [h] at hy; injection hy with hy; subst hy; have := arity3 ha; omega
theorem tx_end0 {p : ProgD} {ps : List FieldD} {l : List NodeD} {i j : Nat} {s : ByteArray} (h : Tx p ps l i j s) : endM (l.drop i) 1 = some (j - i) := by have := tx_end h 0; simpa using this
theorem tx_text {W : World} {x : L NodeD} {p : ProgD} {ps : L FieldD} (E : WEnv W x p ps) (hlen : x.l.length ≤ 24) {i j : Nat} {s : ByteArray} (h : Tx p ps.l x.l i j s) : TxtC W x p ps i s := by
  have hb : ∀ {i j : Nat} {s : ByteArray}, Tx p ps.l x.l i j s → s.size ≤ 72000 := fun h => by have := h.lt; have := h.size E.nm; omega
  induction h with
  | leaf h ha hk => exact rtext_leaf E h ha hk
  | @un i j x0 y s h ha hk hy t1 ih => exact rtext_un E h ha hk (by have := hb t1; have := opd_size y s; omega) (ropd_of_text E hy (nodeok_op t1 hy) (by have := hb t1; omega) ih)
  | @bi i m j x0 y z s t h ha hk hy t1 hz t2 ih1 ih2 =>
    have l1 := t1.lt
    have l2 := t2.lt
    exact rtext_bi E h ha (by have := hb t1; have := opd_size y s; omega) (by have := hb t2; have := opd_size z t; omega) (by omega) (by omega) (tx_end0 t1)
      (ropd_of_text E hy (nodeok_op t1 hy) (by have := hb t1; omega) ih1) (ropd_of_text E hz (nodeok_op t2 hz) (by have := hb t2; omega) ih2)
  | @tri i m n j x0 y z u s t r h ha hk hy t1 hz t2 hu t3 ih1 ih2 ih3 =>
    have l1 := t1.lt
    have l2 := t2.lt
    have l3 := t3.lt
    exact rtext_tri E h ha (by have := hb t1; have := opd_size y s; omega) (by have := hb t2; have := opd_size z t; omega) (by have := hb t3; have := opd_size u r; omega) (by omega) (by omega) (tx_end0 t1) (by omega) (by omega) (tx_end0 t2)
      (ropd_of_text E hy (nodeok_op t1 hy) (by have := hb t1; omega) ih1) (ropd_of_text E hz (nodeok_op t2 hz) (by have := hb t2; omega) ih2) (ropd_of_text E hu (nodeok_op t3 hu) (by have := hb t3; omega) ih3)
end Go.Proofs.YtpomjcndeanjgaaGreatDoor
