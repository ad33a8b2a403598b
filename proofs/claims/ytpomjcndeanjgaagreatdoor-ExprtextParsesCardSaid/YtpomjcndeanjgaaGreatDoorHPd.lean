/- Walks of exprtext's reference: readField. No condition but that program and tokens lie in memory. Walks of exprtext's reference: prefix, join. No condition but that the lists lie in memory and are short. Walks of exprtext's reference: binary, readOperand. No condition but that program and tokens lie in memory. Walks of exprtext's reference: readOperand, its primaries. No condition but that program and tokens lie in memory. Walks of exprtext's reference: readExpr. No condition but that program and tokens lie in memory. -/
import Derived.Maps.AppendAt
import Derived.Laws.OwnMore
import Derived.Test.YtpomjcndeanjgaaGreatDoorHPc
namespace Go.Proofs.YtpomjcndeanjgaaGreatDoor
open Go.RowKit
theorem tk_of {ts : List Tk} {i : Nat} (h : i < ts.length) : tkAt ts i = ts[i] := tk_some (List.getElem?_eq_getElem h)
theorem RG.put {w W u : World} {k : Nat} {R : Pd} {A : Option Addr} {c : Nat} {r : Ending} (hk : w.heap.size ≤ k) (hb : Below w.heap.size w u) (hl : LOk u 3 NodeD.cells ⟨R.n, A, c⟩) (hn : A = none → c = 0) (hf : ∀ a, A = some a → W.heap.size ≤ a.block) (hW : w.heap.size ≤ W.heap.size ∧ k < W.heap.size)
    (x y z : Value) (hr : r = .returned (.agg #[.slice A R.n.length c, .int .i64 R.at_, .int .i64 R.e])) : RG w R r (((u.setCell ⟨k, 0, none⟩ x).setCell ⟨k, 1, none⟩ y).setCell ⟨k, 2, none⟩ z) :=
  RG.fin hk hb hl hn (fun a h => by have := hf a h; omega) x y z hr
set_option maxRecDepth 100000 in
set_option maxHeartbeats 8000000 in
theorem rfieldBad {x : L Tk} {p : ProgD} {ps : L FieldD} {i : Nat} {w : World} (E : REnv w x p ps) (hi : i < x.l.length) (hz : expAll x.l (i + 1) [(3, [46]), (1, [])] ≠ 0) :
    Calls Tryz.prog 98 #[.slice x.A x.l.length x.c, .int .i64 i, .agg (scopeCells p ps)] w (RG w (rField p x.l i)) := by
  have HR : Hid (rField p x.l i = ⟨[], 0, expAll x.l (i + 1) [(3, [46]), (1, [])]⟩) := Lib.hid (by rw [rField, if_pos hz])
  obtain ⟨W, hW, hw, hsz, hb1, hb2⟩ := boxR w (scopeCells p ps) 44 #[.slice none 0 0, .int .i64 0, .int .i64 0] 88
  have HW := Lib.hid hw
  have HE := Lib.hid (E.below hw)
  have HRB := Lib.hid (fun u (h : Below W.heap.size W u) => hb2.below h hb2.lt)
  have hps := fun u (h : Below W.heap.size W u) => (show ∀ i, i < (scopeCells p ps).size → u.cell? ⟨w.heap.size, i, none⟩ = (scopeCells p ps)[i]? from fun i _ => (hb1.below h hb1.lt).cell i)
  have HSZ : Hid (W.heap.size = w.heap.size + 2) := Lib.hid hsz
  have HB := Below.refl W.heap.size W
  have hm := E.few
  clear hw hsz hb1 hb2
  have HXA := Lib.hid (fun u (h : LOk u 4 tkL x) => show Calls Tryz.prog 69 #[.slice x.A x.l.length x.c, .int .i64 ((i : Int) + 1), .slice (some ⟨u.heap.size, 0, none⟩) 2 2, .slice (some ⟨u.heap.size + 1, 0, none⟩) 2 2] ((u.alloc (.cells #[.int .i64 3, .int .i64 1] 3)).alloc (.cells #[.string ⟨#[46]⟩, .string ⟨#[]⟩] 9)) fun e w' => e = .returned (.int .i64 (expAll x.l (i + 1) [(3, [46]), (1, [])])) ∧ Below u.heap.size u w' from expAll_lit (i := i + 1) [(3, [46]), (1, [])] h (by omega) (by decide))
  generalize hAL : expAll x.l (i + 1) [(3, [46]), (1, [])] = al at *
  clear hAL
  have hz' : (al != 0) = true := bne_iff_ne.2 hz
  clear E
  go_enter Tryz.func98, Tryz.ntmps98
  go_upto_region 1 with fail
  rw [← hW]
  clear hW
  go_wp2_with fail
  refine (HXA.out W HE.out.toks).mono ?_
  rintro r w1 ⟨rfl, hN⟩
  have HB1 := Lib.hid hN
  clear hN HXA
  have HRU := Lib.hid (HRB.out w1 HB1.out)
  have r0 : w1.cell? ⟨w.heap.size + 1, 0, none⟩ = some (.slice none 0 0) := HRU.out.cell 0
  have r1 : w1.cell? ⟨w.heap.size + 1, 1, none⟩ = some (.int .i64 0) := HRU.out.cell 1
  have r2 : w1.cell? ⟨w.heap.size + 1, 2, none⟩ = some (.int .i64 0) := HRU.out.cell 2
  have g0 : w1.frozen? ⟨w.heap.size + 1, 0, none⟩ = false := HRU.out.frozen 0
  have g1 : w1.frozen? ⟨w.heap.size + 1, 1, none⟩ = false := HRU.out.frozen 1
  have g2 : w1.frozen? ⟨w.heap.size + 1, 2, none⟩ = false := HRU.out.frozen 2
  go_wp2
  refine bodyPost_ret (v := .agg #[.slice none 0 0, .int .i64 0, .int .i64 al]) ?_ rfl ?_
  · exact results_cell_row (fn := Tryz.f98) (p := 6) (ty := 88) rfl _ _ (w.heap.size + 1) 88 #[.slice none 0 0, .int .i64 0, .int .i64 al] (0, 0) _ rfl (rput3 HRU.out _ _ _) Tryz.underlying88 rfl (by kernel_rfl)
  · exact RG.cast (RG.fin (R := ⟨[], 0, al⟩) (A := none) (c := 0) (Nat.le_succ _) (below_step HW.out HB1.out) ⟨Nat.zero_le _, .inl rfl⟩ (fun _ => rfl) (fun a h => by cases h) _ _ _ rfl) HR.out.symm
theorem flds_ok {w : World} {p : ProgD} {h : Int} (o : ProgOk w p) (hh : h = -1 ∨ (0 ≤ h ∧ h.toNat < p.headers.l.length)) : LOk w 2 FieldD.cells (fldsL p h) := by
  rcases hh with rfl | ⟨h0, h1⟩
  · exact o.metadata
  · obtain ⟨k, rfl⟩ : ∃ k : Nat, h = k := ⟨h.toNat, (Int.toNat_of_nonneg h0).symm⟩
    have hk1 : k < p.headers.l.length := by simpa using h1
    rw [(hdr_at' p hk1).2]
    exact (o.hdr _ (List.getElem_mem hk1)).fields
set_option maxRecDepth 100000 in
set_option maxHeartbeats 8000000 in
theorem rfieldMeta {x : L Tk} {p : ProgD} {ps : L FieldD} {i : Nat} {w : World} (E : REnv w x p ps) (hi : i + 2 < x.l.length) (hz : expAll x.l (i + 1) [(3, [46]), (1, [])] = 0) (hm1 : x.l[i].str = metaName) :
    Calls Tryz.prog 98 #[.slice x.A x.l.length x.c, .int .i64 i, .agg (scopeCells p ps)] w (RG w (rField p x.l i)) := by
  have HR : Hid (rField p x.l i = if findF (fldsL p (-1)).l x.l[i + 2].str < 0 then ⟨[], 0, 8⟩ else ⟨[⟨2, -1, findF (fldsL p (-1)).l x.l[i + 2].str⟩], i + 3, 0⟩) := Lib.hid (by
    rw [rField, if_neg (by simpa using hz), tk_of (show i < x.l.length by omega), tk_of hi, if_neg (fun h => h.1 hm1)]
    simp only [hm1, ne_eq, not_true_eq_false, if_false])
  obtain ⟨W, hW, hw, hsz, hb1, hb2⟩ := boxR w (scopeCells p ps) 44 #[.slice none 0 0, .int .i64 0, .int .i64 0] 88
  have HW := Lib.hid hw
  have HE := Lib.hid (E.below hw)
  have HRB := Lib.hid (fun u (h : Below W.heap.size W u) => hb2.below h hb2.lt)
  have hps := fun u (h : Below W.heap.size W u) => (show ∀ i, i < (scopeCells p ps).size → u.cell? ⟨w.heap.size, i, none⟩ = (scopeCells p ps)[i]? from fun i _ => (hb1.below h hb1.lt).cell i)
  have HSZ : Hid (W.heap.size = w.heap.size + 2) := Lib.hid hsz
  have HB := Below.refl W.heap.size W
  have hm := E.few
  clear hw hsz hb1 hb2
  have HXA := Lib.hid (fun u (h : LOk u 4 tkL x) => show Calls Tryz.prog 69 #[.slice x.A x.l.length x.c, .int .i64 ((i : Int) + 1), .slice (some ⟨u.heap.size, 0, none⟩) 2 2, .slice (some ⟨u.heap.size + 1, 0, none⟩) 2 2] ((u.alloc (.cells #[.int .i64 3, .int .i64 1] 3)).alloc (.cells #[.string ⟨#[46]⟩, .string ⟨#[]⟩] 9)) fun e w' => e = .returned (.int .i64 (expAll x.l (i + 1) [(3, [46]), (1, [])])) ∧ Below u.heap.size u w' from expAll_lit (i := i + 1) [(3, [46]), (1, [])] h (by omega) (by decide))
  generalize hAL : expAll x.l (i + 1) [(3, [46]), (1, [])] = al at *
  subst hz
  clear hAL E
  obtain ⟨g, of, hA, hq⟩ := TkD.atA HE.out.toks hi
  have HQ := Lib.hid hq
  obtain ⟨g2, of2, hA2, hq2⟩ := TkD.atA HE.out.toks (show i < x.l.length by omega)
  obtain ⟨rfl, rfl⟩ : g = g2 ∧ of = of2 := by
    rw [hA] at hA2; injection hA2 with hA2; injection hA2 with a b; exact ⟨a, b⟩
  have HQ2 := Lib.hid hq2
  have hii : (i : Int) + 2 < (x.l.length : Int) := by omega
  have hii0 : 0 ≤ (i : Int) + 2 := by omega
  have hji : (i : Int) < (x.l.length : Int) := by omega
  have htn : ((i : Int) + 2).toNat = i + 2 := by omega
  have hwr : IntKind.i64.wrap ((i : Int) + 2) = (i : Int) + 2 := IntWalk.i64_in _ (by omega)
  have HAA := Lib.hid hA
  clear hq hq2 hA hA2
  have hd1 : ∀ u, Below W.heap.size W u → u.cell? ⟨g, of + i * 4 + 1, none⟩ = some (.string metaName) := fun u h => by rw [← hm1]; exact (HQ2.out u h).2.1
  have hmt : (metaName.toList == [109, 101, 116, 97]) = true := by rw [toList_data]; rfl
  have HMT := Lib.hid hm1
  clear hm1
  simp only [HAA.out] at HXA ⊢
  rw [show x.l[i + 2].str = (⟨x.l[i + 2].text.toArray⟩ : ByteArray) from rfl] at HR
  go_enter Tryz.func98, Tryz.ntmps98
  go_upto_region 1 with fail
  rw [← hW]
  clear hW
  go_wp2_with fail
  refine (HXA.out W HE.out.toks).mono ?_
  rintro r w1 ⟨rfl, hN⟩
  have HB1 := Lib.hid hN
  clear hN HXA
  have hd1' := hd1 w1 HB1.out
  clear hd1
  go_upto_region 9 with fail
  have H0 := Lib.hid (Below.refl w1.heap.size w1)
  have hp2 := fun u (h : Below w1.heap.size w1 u) => hps u (below_step HB1.out h)
  have hd2 := fun u (h : Below w1.heap.size w1 u) => (HQ.out u (below_step HB1.out h)).2.1
  have HFL := Lib.hid (fun u (h : Below w1.heap.size w1 u) => rfields_any p ps (-1) u (HE.out.prog.below (below_step HB1.out h)) (.inl rfl))
  have HFF := Lib.hid (fun u (h : Below w1.heap.size w1 u) => show Calls Tryz.prog 43 #[.slice (fldsL p (-1)).A (fldsL p (-1)).l.length (fldsL p (-1)).c, .string ⟨x.l[i + 2].text.toArray⟩] u fun e w' => e = .returned (.int .i64 (findF (fldsL p (-1)).l ⟨x.l[i + 2].text.toArray⟩)) ∧ u = w' from rfindField_any (fldsL p (-1)) ⟨x.l[i + 2].text.toArray⟩ u ((flds_ok HE.out.prog (.inl rfl)).below (below_step HB1.out h) (Nat.le_refl _)))
  generalize x.l[i + 2].text = tx at *
  obtain ⟨ff, hff⟩ : ∃ ff, ff = findF (fldsL p (-1)).l ⟨tx.toArray⟩ := ⟨_, rfl⟩
  rw [← hff] at HR HFF
  clear hff
  clear hps
  go_upto_region 9 with fail
  go_region_held3 (fun w' => Below w1.heap.size w1 w') (first | exact H0.out | exact below_drew H0.out | (exact below_step (by assumption) (by assumption)) | assumption)
    (first
    | (go_at_call 40; refine (HFL.out _ (by assumption)).mono ?_; rintro r w5 ⟨rfl, hb5⟩)
    | (go_at_call 43; refine (HFF.out _ (by assumption)).mono ?_; rintro r w6 ⟨rfl, rfl⟩))
  have HB5 := Lib.hid (below_step HB1.out (show Below w1.heap.size w1 w5 by assumption))
  by_cases hf : ff < 0
  · have hf' : decide (ff < 0) = true := decide_eq_true hf
    replace HR := Lib.hid (HR.out.trans (if_pos hf))
    clear hp2 hd2 hf
    have HRU := Lib.hid (HRB.out w5 HB5.out)
    have r0 : w5.cell? ⟨w.heap.size + 1, 0, none⟩ = some (.slice none 0 0) := HRU.out.cell 0
    have r1 : w5.cell? ⟨w.heap.size + 1, 1, none⟩ = some (.int .i64 0) := HRU.out.cell 1
    have r2 : w5.cell? ⟨w.heap.size + 1, 2, none⟩ = some (.int .i64 0) := HRU.out.cell 2
    have g0 : w5.frozen? ⟨w.heap.size + 1, 0, none⟩ = false := HRU.out.frozen 0
    have g1 : w5.frozen? ⟨w.heap.size + 1, 1, none⟩ = false := HRU.out.frozen 1
    have g2 : w5.frozen? ⟨w.heap.size + 1, 2, none⟩ = false := HRU.out.frozen 2
    go_wp2
    refine bodyPost_ret (v := .agg #[.slice none 0 0, .int .i64 0, .int .i64 8]) ?_ rfl ?_
    · exact results_cell_row (fn := Tryz.f98) (p := 6) (ty := 88) rfl _ _ (w.heap.size + 1) 88 #[.slice none 0 0, .int .i64 0, .int .i64 8] (0, 0) _ rfl (rput3 HRU.out _ _ _) Tryz.underlying88 rfl (by kernel_rfl)
    · exact RG.cast (RG.fin (R := ⟨[], 0, 8⟩) (A := none) (c := 0) (Nat.le_succ _) (below_step HW.out HB5.out) ⟨Nat.zero_le _, .inl rfl⟩ (fun _ => rfl) (fun a h => by cases h) _ _ _ rfl) HR.out.symm
  · have hf' : decide (ff < 0) = false := decide_eq_false hf
    replace HR := Lib.hid (HR.out.trans (if_neg hf))
    clear hp2 hd2 hf
    have HSI := Lib.hid (show Calls Tryz.prog 96 #[.agg #[.int .i64 2, .int .i64 (-1), .int .i64 ff], .int .i64 i, .int .i64 3] w5 (RG w5 ⟨[⟨2, (-1), ff⟩], i + 3, 0⟩) from rsingle_any ⟨2, (-1), ff⟩ i 3 w5 (by omega))
    have HFAR : Hid (w.heap.size ≤ w5.heap.size ∧ w.heap.size + 1 < w5.heap.size) := Lib.hid (by have := HB5.out.size; have := HSZ.out; omega)
    go_wp2_with fail
    refine HSI.out.mono ?_
    rintro r w7 ⟨⟨A7, c7, rfl, hl7, hn7, hf7⟩, hb7⟩
    have HL7 := Lib.hid hl7
    have HN7 := Lib.hid hn7
    have HF7 := Lib.hid hf7
    have HB7 := Lib.hid (below_step HB5.out hb7)
    clear hl7 hn7 hf7 hb7
    have HRU := Lib.hid (HRB.out w7 HB7.out)
    have r0 : w7.cell? ⟨w.heap.size + 1, 0, none⟩ = some (.slice none 0 0) := HRU.out.cell 0
    have r1 : w7.cell? ⟨w.heap.size + 1, 1, none⟩ = some (.int .i64 0) := HRU.out.cell 1
    have r2 : w7.cell? ⟨w.heap.size + 1, 2, none⟩ = some (.int .i64 0) := HRU.out.cell 2
    have g0 : w7.frozen? ⟨w.heap.size + 1, 0, none⟩ = false := HRU.out.frozen 0
    have g1 : w7.frozen? ⟨w.heap.size + 1, 1, none⟩ = false := HRU.out.frozen 1
    have g2 : w7.frozen? ⟨w.heap.size + 1, 2, none⟩ = false := HRU.out.frozen 2
    go_wp2
    refine bodyPost_ret (v := .agg #[.slice A7 1 c7, .int .i64 ((i + 3 : Nat) : Int), .int .i64 0]) ?_ rfl ?_
    · exact results_cell_row (fn := Tryz.f98) (p := 6) (ty := 88) rfl _ _ (w.heap.size + 1) 88 #[.slice A7 1 c7, .int .i64 ((i + 3 : Nat) : Int), .int .i64 0] (0, 0) _ rfl (rput3 HRU.out _ _ _) Tryz.underlying88 rfl (by kernel_rfl)
    · exact RG.cast (RG.put (R := ⟨[⟨2, (-1), ff⟩], i + 3, 0⟩) (A := A7) (c := c7) (W := w5) (Nat.le_succ _) (below_step HW.out HB7.out) HL7.out HN7.out HF7.out HFAR.out _ _ _ rfl) HR.out.symm
set_option maxRecDepth 100000 in
set_option maxHeartbeats 8000000 in
theorem rfieldNo {x : L Tk} {p : ProgD} {ps : L FieldD} {i : Nat} {w : World} (E : REnv w x p ps) (hi : i + 2 < x.l.length) (hz : expAll x.l (i + 1) [(3, [46]), (1, [])] = 0) (hm1 : x.l[i].str ≠ metaName) (hfh : findH p x.l[i].str < 0) :
    Calls Tryz.prog 98 #[.slice x.A x.l.length x.c, .int .i64 i, .agg (scopeCells p ps)] w (RG w (rField p x.l i)) := by
  have HR : Hid (rField p x.l i = ⟨[], 0, 8⟩) := Lib.hid (by
    rw [rField, if_neg (by simpa using hz), tk_of (show i < x.l.length by omega), if_pos ⟨hm1, hfh⟩])
  obtain ⟨W, hW, hw, hsz, hb1, hb2⟩ := boxR w (scopeCells p ps) 44 #[.slice none 0 0, .int .i64 0, .int .i64 0] 88
  have HW := Lib.hid hw
  have HE := Lib.hid (E.below hw)
  have HRB := Lib.hid (fun u (h : Below W.heap.size W u) => hb2.below h hb2.lt)
  have hps := fun u (h : Below W.heap.size W u) => (show ∀ i, i < (scopeCells p ps).size → u.cell? ⟨w.heap.size, i, none⟩ = (scopeCells p ps)[i]? from fun i _ => (hb1.below h hb1.lt).cell i)
  have HSZ : Hid (W.heap.size = w.heap.size + 2) := Lib.hid hsz
  have HB := Below.refl W.heap.size W
  have hm := E.few
  clear hw hsz hb1 hb2
  have HXA := Lib.hid (fun u (h : LOk u 4 tkL x) => show Calls Tryz.prog 69 #[.slice x.A x.l.length x.c, .int .i64 ((i : Int) + 1), .slice (some ⟨u.heap.size, 0, none⟩) 2 2, .slice (some ⟨u.heap.size + 1, 0, none⟩) 2 2] ((u.alloc (.cells #[.int .i64 3, .int .i64 1] 3)).alloc (.cells #[.string ⟨#[46]⟩, .string ⟨#[]⟩] 9)) fun e w' => e = .returned (.int .i64 (expAll x.l (i + 1) [(3, [46]), (1, [])])) ∧ Below u.heap.size u w' from expAll_lit (i := i + 1) [(3, [46]), (1, [])] h (by omega) (by decide))
  generalize hAL : expAll x.l (i + 1) [(3, [46]), (1, [])] = al at *
  subst hz
  clear hAL E
  obtain ⟨g, of, hA, hq⟩ := TkD.atA HE.out.toks hi
  have HQ := Lib.hid hq
  obtain ⟨g2, of2, hA2, hq2⟩ := TkD.atA HE.out.toks (show i < x.l.length by omega)
  obtain ⟨rfl, rfl⟩ : g = g2 ∧ of = of2 := by
    rw [hA] at hA2; injection hA2 with hA2; injection hA2 with a b; exact ⟨a, b⟩
  have HQ2 := Lib.hid hq2
  have hii : (i : Int) + 2 < (x.l.length : Int) := by omega
  have hii0 : 0 ≤ (i : Int) + 2 := by omega
  have hji : (i : Int) < (x.l.length : Int) := by omega
  have htn : ((i : Int) + 2).toNat = i + 2 := by omega
  have hwr : IntKind.i64.wrap ((i : Int) + 2) = (i : Int) + 2 := IntWalk.i64_in _ (by omega)
  have HAA := Lib.hid hA
  clear hq hq2 hA hA2
  have hmt : (x.l[i].text == [109, 101, 116, 97]) = false := by rw [tx_lit]; exact decide_eq_false (fun h => hm1 (by rw [Tk.str, h]; rfl))
  have HFH := Lib.hid (fun u (h : Below W.heap.size W u) => rfindHeader_any p ps ⟨x.l[i].text.toArray⟩ u (HE.out.prog.below h))
  have hfh' : decide (Lib.idxOfS (hNames p) ⟨x.l[i].text.toArray⟩ < 0) = true := decide_eq_true hfh
  have hd1 := fun u (h : Below W.heap.size W u) => (HQ2.out u h).2.1
  generalize Lib.idxOfS (hNames p) ⟨x.l[i].text.toArray⟩ = fh at *
  clear hm1 hfh
  generalize x.l[i].text = tx at *
  simp only [HAA.out] at HXA ⊢
  go_enter Tryz.func98, Tryz.ntmps98
  go_upto_region 1 with fail
  rw [← hW]
  clear hW
  go_wp2_with fail
  refine (HXA.out W HE.out.toks).mono ?_
  rintro r w1 ⟨rfl, hN⟩
  have HB1 := Lib.hid hN
  clear hN HXA
  have hd1' := hd1 w1 HB1.out
  have H0 := Lib.hid (Below.refl w1.heap.size w1)
  have hp2 := fun u (h : Below w1.heap.size w1 u) => hps u (below_step HB1.out h)
  have hd2 := fun u (h : Below w1.heap.size w1 u) => hd1 u (below_step HB1.out h)
  have HFH1 := Lib.hid (fun u (h : Below w1.heap.size w1 u) => HFH.out u (below_step HB1.out h))
  clear hps hd1 HFH
  go_upto_region 6 with fail
  clear hd1'
  go_region_held3 (fun w' => Below w1.heap.size w1 w') (first | exact H0.out | exact below_drew H0.out | (exact below_step (by assumption) (by assumption)) | assumption)
    (first | (go_at_call 81; refine (HFH1.out _ (by assumption)).mono ?_; rintro r w5 ⟨rfl, hb5⟩))
  have HB5 := Lib.hid (below_step HB1.out (show Below w1.heap.size w1 w5 by assumption))
  clear hp2 hd2
  have HRU := Lib.hid (HRB.out w5 HB5.out)
  have r0 : w5.cell? ⟨w.heap.size + 1, 0, none⟩ = some (.slice none 0 0) := HRU.out.cell 0
  have r1 : w5.cell? ⟨w.heap.size + 1, 1, none⟩ = some (.int .i64 0) := HRU.out.cell 1
  have r2 : w5.cell? ⟨w.heap.size + 1, 2, none⟩ = some (.int .i64 0) := HRU.out.cell 2
  have g0 : w5.frozen? ⟨w.heap.size + 1, 0, none⟩ = false := HRU.out.frozen 0
  have g1 : w5.frozen? ⟨w.heap.size + 1, 1, none⟩ = false := HRU.out.frozen 1
  have g2 : w5.frozen? ⟨w.heap.size + 1, 2, none⟩ = false := HRU.out.frozen 2
  go_wp2
  refine bodyPost_ret (v := .agg #[.slice none 0 0, .int .i64 0, .int .i64 8]) ?_ rfl ?_
  · exact results_cell_row (fn := Tryz.f98) (p := 6) (ty := 88) rfl _ _ (w.heap.size + 1) 88 #[.slice none 0 0, .int .i64 0, .int .i64 8] (0, 0) _ rfl (rput3 HRU.out _ _ _) Tryz.underlying88 rfl (by kernel_rfl)
  · exact RG.cast (RG.fin (R := ⟨[], 0, 8⟩) (A := none) (c := 0) (Nat.le_succ _) (below_step HW.out HB5.out) ⟨Nat.zero_le _, .inl rfl⟩ (fun _ => rfl) (fun a h => by cases h) _ _ _ rfl) HR.out.symm
set_option maxRecDepth 100000 in
set_option maxHeartbeats 8000000 in
theorem rfieldHdr {x : L Tk} {p : ProgD} {ps : L FieldD} {i : Nat} {w : World} (E : REnv w x p ps) (hi : i + 2 < x.l.length) (hz : expAll x.l (i + 1) [(3, [46]), (1, [])] = 0) (hm1 : x.l[i].str ≠ metaName) (hfh : ¬ findH p x.l[i].str < 0) :
    Calls Tryz.prog 98 #[.slice x.A x.l.length x.c, .int .i64 i, .agg (scopeCells p ps)] w (RG w (rField p x.l i)) := by
  have hlt := findH_lt p x.l[i].str
  obtain ⟨fh, hfe⟩ : ∃ fh, fh = findH p x.l[i].str := ⟨_, rfl⟩
  have HR : Hid (rField p x.l i = if findF (fldsL p (fh)).l x.l[i + 2].str < 0 then ⟨[], 0, 8⟩ else ⟨[⟨2, fh, findF (fldsL p (fh)).l x.l[i + 2].str⟩], i + 3, 0⟩) := Lib.hid (by
    rw [rField, if_neg (by simpa using hz), tk_of (show i < x.l.length by omega), tk_of hi, if_neg (fun h => hfh h.2), ← hfe]
    simp only [hm1, ne_eq, not_false_eq_true, if_true])
  obtain ⟨W, hW, hw, hsz, hb1, hb2⟩ := boxR w (scopeCells p ps) 44 #[.slice none 0 0, .int .i64 0, .int .i64 0] 88
  have HW := Lib.hid hw
  have HE := Lib.hid (E.below hw)
  have HRB := Lib.hid (fun u (h : Below W.heap.size W u) => hb2.below h hb2.lt)
  have hps := fun u (h : Below W.heap.size W u) => (show ∀ i, i < (scopeCells p ps).size → u.cell? ⟨w.heap.size, i, none⟩ = (scopeCells p ps)[i]? from fun i _ => (hb1.below h hb1.lt).cell i)
  have HSZ : Hid (W.heap.size = w.heap.size + 2) := Lib.hid hsz
  have HB := Below.refl W.heap.size W
  have hm := E.few
  clear hw hsz hb1 hb2
  have HXA := Lib.hid (fun u (h : LOk u 4 tkL x) => show Calls Tryz.prog 69 #[.slice x.A x.l.length x.c, .int .i64 ((i : Int) + 1), .slice (some ⟨u.heap.size, 0, none⟩) 2 2, .slice (some ⟨u.heap.size + 1, 0, none⟩) 2 2] ((u.alloc (.cells #[.int .i64 3, .int .i64 1] 3)).alloc (.cells #[.string ⟨#[46]⟩, .string ⟨#[]⟩] 9)) fun e w' => e = .returned (.int .i64 (expAll x.l (i + 1) [(3, [46]), (1, [])])) ∧ Below u.heap.size u w' from expAll_lit (i := i + 1) [(3, [46]), (1, [])] h (by omega) (by decide))
  generalize hAL : expAll x.l (i + 1) [(3, [46]), (1, [])] = al at *
  subst hz
  clear hAL E
  obtain ⟨g, of, hA, hq⟩ := TkD.atA HE.out.toks hi
  have HQ := Lib.hid hq
  obtain ⟨g2, of2, hA2, hq2⟩ := TkD.atA HE.out.toks (show i < x.l.length by omega)
  obtain ⟨rfl, rfl⟩ : g = g2 ∧ of = of2 := by
    rw [hA] at hA2; injection hA2 with hA2; injection hA2 with a b; exact ⟨a, b⟩
  have HQ2 := Lib.hid hq2
  have hii : (i : Int) + 2 < (x.l.length : Int) := by omega
  have hii0 : 0 ≤ (i : Int) + 2 := by omega
  have hji : (i : Int) < (x.l.length : Int) := by omega
  have htn : ((i : Int) + 2).toNat = i + 2 := by omega
  have hwr : IntKind.i64.wrap ((i : Int) + 2) = (i : Int) + 2 := IntWalk.i64_in _ (by omega)
  have HAA := Lib.hid hA
  clear hq hq2 hA hA2
  have hmt : (x.l[i].text == [109, 101, 116, 97]) = false := by rw [tx_lit]; exact decide_eq_false (fun h => hm1 (by rw [Tk.str, h]; rfl))
  have HFH : Hid (∀ u, Below W.heap.size W u → Calls Tryz.prog 81 #[.agg (scopeCells p ps), .string ⟨x.l[i].text.toArray⟩] u fun e w' => e = .returned (.int .i64 fh) ∧ Below u.heap.size u w') := Lib.hid (fun u h => by rw [hfe]; exact rfindHeader_any p ps ⟨x.l[i].text.toArray⟩ u (HE.out.prog.below h))
  rw [← hfe] at hfh hlt
  have hh : fh = -1 ∨ (0 ≤ fh ∧ fh.toNat < p.headers.l.length) := .inr ⟨by omega, by omega⟩
  have HH := Lib.hid hh
  have hfh' : decide (fh < 0) = false := decide_eq_false hfh
  have hd1 := fun u (h : Below W.heap.size W u) => (HQ2.out u h).2.1
  clear hm1 hfh hlt hh hfe
  generalize x.l[i].text = tz at *
  simp only [HAA.out] at HXA ⊢
  rw [show x.l[i + 2].str = (⟨x.l[i + 2].text.toArray⟩ : ByteArray) from rfl] at HR
  go_enter Tryz.func98, Tryz.ntmps98
  go_upto_region 1 with fail
  rw [← hW]
  clear hW
  go_wp2_with fail
  refine (HXA.out W HE.out.toks).mono ?_
  rintro r w1 ⟨rfl, hN⟩
  have HB1 := Lib.hid hN
  clear hN HXA
  have hd1' := hd1 w1 HB1.out
  have H0 := Lib.hid (Below.refl w1.heap.size w1)
  have hp2 := fun u (h : Below w1.heap.size w1 u) => hps u (below_step HB1.out h)
  have hd2 := fun u (h : Below w1.heap.size w1 u) => hd1 u (below_step HB1.out h)
  have HFH1 := Lib.hid (fun u (h : Below w1.heap.size w1 u) => HFH.out u (below_step HB1.out h))
  clear hd1 HFH
  go_upto_region 6 with fail
  clear hd1'
  go_region_held3 (fun w' => Below w1.heap.size w1 w') (first | exact H0.out | exact below_drew H0.out | (exact below_step (by assumption) (by assumption)) | assumption)
    (first | (go_at_call 81; refine (HFH1.out _ (by assumption)).mono ?_; rintro r w4 ⟨rfl, hb4⟩))
  have HB4 := Lib.hid (below_step HB1.out (show Below w1.heap.size w1 w4 by assumption))
  clear hp2 hd2 H0 HFH1
  have H0 := Lib.hid (Below.refl w4.heap.size w4)
  have hp2 := fun u (h : Below w4.heap.size w4 u) => hps u (below_step HB4.out h)
  have hd2 := fun u (h : Below w4.heap.size w4 u) => (HQ.out u (below_step HB4.out h)).2.1
  have HFL := Lib.hid (fun u (h : Below w4.heap.size w4 u) => rfields_any p ps fh u (HE.out.prog.below (below_step HB4.out h)) HH.out)
  have HFF := Lib.hid (fun u (h : Below w4.heap.size w4 u) => show Calls Tryz.prog 43 #[.slice (fldsL p fh).A (fldsL p fh).l.length (fldsL p fh).c, .string ⟨x.l[i + 2].text.toArray⟩] u fun e w' => e = .returned (.int .i64 (findF (fldsL p fh).l ⟨x.l[i + 2].text.toArray⟩)) ∧ u = w' from rfindField_any (fldsL p fh) ⟨x.l[i + 2].text.toArray⟩ u ((flds_ok HE.out.prog HH.out).below (below_step HB4.out h) (Nat.le_refl _)))
  generalize x.l[i + 2].text = tx at *
  obtain ⟨ff, hff⟩ : ∃ ff, ff = findF (fldsL p fh).l ⟨tx.toArray⟩ := ⟨_, rfl⟩
  rw [← hff] at HR HFF
  clear hff
  clear hps
  go_upto_region 9 with fail
  go_region_held3 (fun w' => Below w4.heap.size w4 w') (first | exact H0.out | exact below_drew H0.out | (exact below_step (by assumption) (by assumption)) | assumption)
    (first
    | (go_at_call 40; refine (HFL.out _ (by assumption)).mono ?_; rintro r w5 ⟨rfl, hb5⟩)
    | (go_at_call 43; refine (HFF.out _ (by assumption)).mono ?_; rintro r w6 ⟨rfl, rfl⟩))
  have HB5 := Lib.hid (below_step HB4.out (show Below w4.heap.size w4 w5 by assumption))
  by_cases hf : ff < 0
  · have hf' : decide (ff < 0) = true := decide_eq_true hf
    replace HR := Lib.hid (HR.out.trans (if_pos hf))
    clear hp2 hd2 hf
    have HRU := Lib.hid (HRB.out w5 HB5.out)
    have r0 : w5.cell? ⟨w.heap.size + 1, 0, none⟩ = some (.slice none 0 0) := HRU.out.cell 0
    have r1 : w5.cell? ⟨w.heap.size + 1, 1, none⟩ = some (.int .i64 0) := HRU.out.cell 1
    have r2 : w5.cell? ⟨w.heap.size + 1, 2, none⟩ = some (.int .i64 0) := HRU.out.cell 2
    have g0 : w5.frozen? ⟨w.heap.size + 1, 0, none⟩ = false := HRU.out.frozen 0
    have g1 : w5.frozen? ⟨w.heap.size + 1, 1, none⟩ = false := HRU.out.frozen 1
    have g2 : w5.frozen? ⟨w.heap.size + 1, 2, none⟩ = false := HRU.out.frozen 2
    go_wp2
    refine bodyPost_ret (v := .agg #[.slice none 0 0, .int .i64 0, .int .i64 8]) ?_ rfl ?_
    · exact results_cell_row (fn := Tryz.f98) (p := 6) (ty := 88) rfl _ _ (w.heap.size + 1) 88 #[.slice none 0 0, .int .i64 0, .int .i64 8] (0, 0) _ rfl (rput3 HRU.out _ _ _) Tryz.underlying88 rfl (by kernel_rfl)
    · exact RG.cast (RG.fin (R := ⟨[], 0, 8⟩) (A := none) (c := 0) (Nat.le_succ _) (below_step HW.out HB5.out) ⟨Nat.zero_le _, .inl rfl⟩ (fun _ => rfl) (fun a h => by cases h) _ _ _ rfl) HR.out.symm
  · have hf' : decide (ff < 0) = false := decide_eq_false hf
    replace HR := Lib.hid (HR.out.trans (if_neg hf))
    clear hp2 hd2 hf
    have HSI := Lib.hid (show Calls Tryz.prog 96 #[.agg #[.int .i64 2, .int .i64 fh, .int .i64 ff], .int .i64 i, .int .i64 3] w5 (RG w5 ⟨[⟨2, fh, ff⟩], i + 3, 0⟩) from rsingle_any ⟨2, fh, ff⟩ i 3 w5 (by omega))
    have HFAR : Hid (w.heap.size ≤ w5.heap.size ∧ w.heap.size + 1 < w5.heap.size) := Lib.hid (by have := HB5.out.size; have := HSZ.out; omega)
    go_wp2_with fail
    refine HSI.out.mono ?_
    rintro r w7 ⟨⟨A7, c7, rfl, hl7, hn7, hf7⟩, hb7⟩
    have HL7 := Lib.hid hl7
    have HN7 := Lib.hid hn7
    have HF7 := Lib.hid hf7
    have HB7 := Lib.hid (below_step HB5.out hb7)
    clear hl7 hn7 hf7 hb7
    have HRU := Lib.hid (HRB.out w7 HB7.out)
    have r0 : w7.cell? ⟨w.heap.size + 1, 0, none⟩ = some (.slice none 0 0) := HRU.out.cell 0
    have r1 : w7.cell? ⟨w.heap.size + 1, 1, none⟩ = some (.int .i64 0) := HRU.out.cell 1
    have r2 : w7.cell? ⟨w.heap.size + 1, 2, none⟩ = some (.int .i64 0) := HRU.out.cell 2
    have g0 : w7.frozen? ⟨w.heap.size + 1, 0, none⟩ = false := HRU.out.frozen 0
    have g1 : w7.frozen? ⟨w.heap.size + 1, 1, none⟩ = false := HRU.out.frozen 1
    have g2 : w7.frozen? ⟨w.heap.size + 1, 2, none⟩ = false := HRU.out.frozen 2
    go_wp2
    refine bodyPost_ret (v := .agg #[.slice A7 1 c7, .int .i64 ((i + 3 : Nat) : Int), .int .i64 0]) ?_ rfl ?_
    · exact results_cell_row (fn := Tryz.f98) (p := 6) (ty := 88) rfl _ _ (w.heap.size + 1) 88 #[.slice A7 1 c7, .int .i64 ((i + 3 : Nat) : Int), .int .i64 0] (0, 0) _ rfl (rput3 HRU.out _ _ _) Tryz.underlying88 rfl (by kernel_rfl)
    · exact RG.cast (RG.put (R := ⟨[⟨2, fh, ff⟩], i + 3, 0⟩) (A := A7) (c := c7) (W := w5) (Nat.le_succ _) (below_step HW.out HB7.out) HL7.out HN7.out HF7.out HFAR.out _ _ _ rfl) HR.out.symm
theorem rdField_any {x : L Tk} {p : ProgD} {ps : L FieldD} {i : Nat} {w : World} (E : REnv w x p ps) (hi : i < x.l.length) : Calls Tryz.prog 98 #[.slice x.A x.l.length x.c, .int .i64 i, .agg (scopeCells p ps)] w (RG w (rField p x.l i)) := by
  by_cases hz : expAll x.l (i + 1) [(3, [46]), (1, [])] = 0
  case neg => exact rfieldBad E hi hz
  have h2 : i + 2 < x.l.length := all2_lt hz
  by_cases hm : x.l[i].str = metaName
  · exact rfieldMeta E h2 hz hm
  by_cases hf : findH p x.l[i].str < 0
  · exact rfieldNo E h2 hz hm hf
  · exact rfieldHdr E h2 hz hm hf
theorem rdValid_any {x : L Tk} {p : ProgD} {ps : L FieldD} {i : Nat} {w : World} (E : REnv w x p ps) (hi : i < x.l.length) : Calls Tryz.prog 97 #[.slice x.A x.l.length x.c, .int .i64 i, .agg (scopeCells p ps)] w (RG w (rValid p x.l i)) := by
  by_cases hz : expAll x.l (i + 1) [(3, [40]), (1, [])] = 0
  case neg => exact rvalidBad E hi hz
  exact rvalidOk E (all2_lt hz) hz
end Go.Proofs.YtpomjcndeanjgaaGreatDoor
namespace Go.Proofs.YtpomjcndeanjgaaGreatDoor
open Go.RowKit
theorem box4 (w : World) (c1 c2 c3 c4 : Array Value) (t1 t2 t3 t4 : TypeId) : ∃ W, W = (((w.alloc (.cells c1 t1)).alloc (.cells c2 t2)).alloc (.cells c3 t3)).alloc (.cells c4 t4) ∧ Below w.heap.size w W ∧ W.heap.size = w.heap.size + 4 ∧
    Blk W w.heap.size t1 c1 ∧ Blk W (w.heap.size + 1) t2 c2 ∧ Blk W (w.heap.size + 1 + 1) t3 c3 ∧ Blk W (w.heap.size + 1 + 1 + 1) t4 c4 := by
  refine ⟨_, rfl, ?_, by simp, ((Blk.new _ _ _).alloc _).alloc _ |>.alloc _, ?_, ?_, ?_⟩
  · exact (((Below.refl w.heap.size w).alloc (Nat.le_refl _) _).alloc (by simp) _ |>.alloc (by simp; omega) _).alloc (by simp; omega) _
  · have := ((Blk.new (w.alloc (.cells c1 t1)) t2 c2).alloc (.cells c3 t3)).alloc (.cells c4 t4)
    simpa using this
  · have := (Blk.new ((w.alloc (.cells c1 t1)).alloc (.cells c2 t2)) t3 c3).alloc (.cells c4 t4)
    simpa using this
  · have := Blk.new (((w.alloc (.cells c1 t1)).alloc (.cells c2 t2)).alloc (.cells c3 t3)) t4 c4
    simpa using this
theorem box3b (w : World) (c1 c2 c3 : Array Value) (t1 t2 t3 : TypeId) : ∃ W, W = ((w.alloc (.cells c1 t1)).alloc (.cells c2 t2)).alloc (.cells c3 t3) ∧ Below w.heap.size w W ∧ W.heap.size = w.heap.size + 3 ∧
    Blk W w.heap.size t1 c1 ∧ Blk W (w.heap.size + 1) t2 c2 ∧ Blk W (w.heap.size + 1 + 1) t3 c3 := by
  refine ⟨_, rfl, ?_, by simp, ((Blk.new _ _ _).alloc _).alloc _, ?_, ?_⟩
  · exact (((Below.refl w.heap.size w).alloc (Nat.le_refl _) _).alloc (by simp) _).alloc (by simp; omega) _
  · have := (Blk.new (w.alloc (.cells c1 t1)) t2 c2).alloc (.cells c3 t3)
    simpa using this
  · have := Blk.new ((w.alloc (.cells c1 t1)).alloc (.cells c2 t2)) t3 c3
    simpa using this
theorem rput3_far {w : World} {k ga : Nat} {ty : TypeId} {cs : Array Value} (h : Blk w ga ty cs) (hne : ga ≠ k) (x y z : Value) : Blk (((w.setCell ⟨k, 0, none⟩ x).setCell ⟨k, 1, none⟩ y).setCell ⟨k, 2, none⟩ z) ga ty cs :=
  gr_blk h (gr_set (gr_set (gr_set (gr_refl w (some k)) x) y) z) hne
theorem opwp_append_L {P : Program} {w : World} {o : Oper} {a : Act} {K : Act → World → Prop} {Q : Exit → Act → World → Prop} (s x : Operand) (t : TypeId)
    (ho : o.op = .call { callee := .builtin .append, args := #[s, x], argTypes := #[t, t] })
    (base : Nat) (e : TypeId) (i : TypeInfo) (z : Value) (size bytes : Nat) (ht : P.underlying t = some (.slice e)) (hi : P.info? e = some i) (hz : i.zero = some z)
    (hsize : i.size = size) (hby : i.bytes = bytes) (hzs : z.cells.size = size) (hsz : 0 < size)
    (v : Value) (n : Nat) (xs : List Value) (hs : a.eval s = v) (hown : w.ownsRow base e size v n xs)
    {α : Type} {cells : α → List Value} (y : L α) (hx : a.eval x = y.v) (hy : LOk w size cells y) (hnil : y.A = none → y.c = 0) (hk : ∀ u, (cells u).length = size) (h1 : ∀ u, ∀ c ∈ cells u, c.oneCell' = true)
    (h63 : n + y.l.length ≤ maxLen) (hbytes : (n + y.l.length) * bytes ≤ 140737488355328) (hbase : base ≤ w.heap.size)
    (h : ∀ v' w', w'.ownsRow base e size v' (n + y.l.length) (xs ++ y.l.flatMap cells) → w.grownBy w' v.ownBlock → K (a.put o.dst v') w') : Oper.wp P o a w K Q := by
  obtain ⟨l, A, c⟩ := y
  cases A with
  | none =>
    have hl : l = [] := by
      rcases hy.2 with h0 | ⟨g, o, e, _⟩
      · exact h0
      · cases e
    subst hl
    obtain rfl : c = 0 := hnil rfl
    have hr := run_append_owned_none (P := P) (w := w) base t o.type e i size ht hi v n xs hown
    have hx' : a.eval x = .slice none 0 0 := hx
    unfold Oper.wp
    simp [execOp, ho, resolve, invoke, builtin, hs, hx', hr, Result.andThen]
    exact h v w (by simpa using hown) ⟨rfl, rfl, rfl, Nat.le_refl _, fun _ _ _ => rfl⟩
  | some ad =>
    obtain ⟨v', w', hr, h2, h3, _, _⟩ := run_append_own_at (P := P) w base t o.type e i z size bytes ht hi hz hsize hby hzs hsz v n xs hown ad l.length c (l.flatMap cells) (flat_len cells size hk l) (fun m u hu => by
      obtain ⟨i', hi', j, hj, rfl, hc⟩ := flat_of cells size hk l m u hu
      obtain ⟨g, o, e', _, hcc⟩ := hy.at (x := ⟨l, some ad, c⟩) hi'
      simp only [Option.some.injEq] at e'
      rw [e', Addr.add_lit, ← Nat.add_assoc, hcc j hj, hc]) (fun u hu => by
      obtain ⟨r, _, hr⟩ := List.mem_flatMap.1 hu
      exact h1 r u hr) h63 hbytes hbase
    have hx' : a.eval x = .slice (some ad) l.length c := hx
    unfold Oper.wp execOp
    simp only [ho, resolve, invoke, builtin, Sem.run_bind, Sem.run_pure, Result.andThen_ok, List.map_toArray, List.map_cons, List.map_nil, hs, hx', hr]
    exact h v' w' h2 h3
set_option maxRecDepth 100000 in
set_option maxHeartbeats 4000000 in
theorem rprefix_any (y : NodeD) (a b : Pd) (A B : Option Addr) (c d : Nat) (w : World) (ha : LOk w 3 NodeD.cells ⟨a.n, A, c⟩) (hna : A = none → c = 0) (hb : LOk w 3 NodeD.cells ⟨b.n, B, d⟩) (hnb : B = none → d = 0) (hm : a.n.length + b.n.length ≤ 30000) :
    Calls Tryz.prog 67 #[.agg #[.int .i64 y.op, .int .i64 y.n, .int .i64 y.w], .agg #[.slice A a.n.length c, .int .i64 a.at_, .int .i64 a.e], .agg #[.slice B b.n.length d, .int .i64 b.at_, .int .i64 b.e]] w (RG w (rPre y a b)) := by
  obtain ⟨op, n, wd⟩ := y
  obtain ⟨an, aj, ae⟩ := a
  obtain ⟨bn, bj, be⟩ := b
  simp only at ha hb hm ⊢
  obtain ⟨W, hW, hw, hsz, hb1, hb2, hb3, hb4⟩ := box4 w #[.int .i64 op, .int .i64 n, .int .i64 wd] #[.slice A an.length c, .int .i64 aj, .int .i64 ae] #[.slice B bn.length d, .int .i64 bj, .int .i64 be] #[.slice none 0 0, .int .i64 0, .int .i64 0] 65 88 88 88
  have HW := Lib.hid hw
  have HA := Lib.hid (ha.below hw (Nat.le_refl _))
  have HBn := Lib.hid (hb.below hw (Nat.le_refl _))
  have HNA := Lib.hid hna
  have HNB := Lib.hid hnb
  have HSZ := Lib.hid hsz
  have H0 := Lib.hid (Below.refl W.heap.size W)
  have HRB := Lib.hid (fun u (h : Below W.heap.size W u) => hb4.below h hb4.lt)
  have HB3 := Lib.hid (fun u (h : Below W.heap.size W u) => hb3.below h hb3.lt)
  have n0 : ∀ u, Below W.heap.size W u → u.cell? ⟨w.heap.size, 0, none⟩ = some (.int .i64 op) := fun u h => (hb1.below h hb1.lt).cell 0
  have n1 : ∀ u, Below W.heap.size W u → u.cell? ⟨w.heap.size, 1, none⟩ = some (.int .i64 n) := fun u h => (hb1.below h hb1.lt).cell 1
  have n2 : ∀ u, Below W.heap.size W u → u.cell? ⟨w.heap.size, 2, none⟩ = some (.int .i64 wd) := fun u h => (hb1.below h hb1.lt).cell 2
  have a0 : ∀ u, Below W.heap.size W u → u.cell? ⟨w.heap.size + 1, 0, none⟩ = some (.slice A an.length c) := fun u h => (hb2.below h hb2.lt).cell 0
  have b0 : ∀ u, Below W.heap.size W u → u.cell? ⟨w.heap.size + 1 + 1, 0, none⟩ = some (.slice B bn.length d) := fun u h => (hb3.below h hb3.lt).cell 0
  obtain ⟨i0, hi, hz0, hz1, hz2⟩ := info_parts info_node
  clear ha hb hna hnb hw hsz hb1 hb2 hb3 hb4
  go_enter Tryz.func67, Tryz.ntmps67
  go_upto_region 1 with fail
  rw [← hW]
  clear hW
  go_upto_region 2 with fail
  --P2{
  refine wp_region_held_drew (S := (fun w' => Below W.heap.size W w')) (by kernel_rfl) (below_drew H0.out) (fun hHeld => ?_)
  refine wpAnyH_take (i := 0) (oi := { dst := some 8, op := Op.move (Operand.tmp 7), type := 32, pos := "ref.go:259", after := #[], guard := none }) (v := ?av0) rfl (by kernel_rfl) (by kernel_rfl) (by kernel_rfl) (fun _ _ _ h => h) (Or.inl ⟨by rfl, ?ay0⟩) (by assumption) ?ar0
  case ay0 => (intro w hSw; (try dsimp only at hSw); go_simp; try (with_reducible rfl))
  try simp only [Act.put, List.setIfInBounds_toArray, List.set_cons_zero, List.set_cons_succ]
  refine wpAnyH_take (i := 1) (oi := { dst := some 9, op := Op.load 65 (Operand.tmp 3), type := 65, pos := "ref.go:259", after := #[], guard := none }) (v := ?av1) rfl (by kernel_rfl) (by kernel_rfl) (by kernel_rfl) (fun _ _ _ h => h) (Or.inl ⟨by rfl, ?ay1⟩) (by assumption) ?ar1
  case ay1 => (intro w hSw; (try dsimp only at hSw); go_simp; try (with_reducible rfl))
  try simp only [Act.put, List.setIfInBounds_toArray, List.set_cons_zero, List.set_cons_succ]
  refine wpAnyH_take (i := 4) (oi := { dst := some 12, op := Op.fieldAddr 88 (Operand.tmp 4) 0, type := 0, pos := "ref.go:259", after := #[], guard := none }) (v := ?av4) rfl (by kernel_rfl) (by kernel_rfl) (by kernel_rfl) (fun _ _ _ h => h) (Or.inl ⟨by rfl, ?ay4⟩) (by assumption) ?ar4
  case ay4 => (intro w hSw; (try dsimp only at hSw); go_simp; try (with_reducible rfl))
  try simp only [Act.put, List.setIfInBounds_toArray, List.set_cons_zero, List.set_cons_succ]
  refine wpAnyH_take (i := 5) (oi := { dst := some 13, op := Op.load 32 (Operand.tmp 12), type := 32, pos := "ref.go:259", after := #[{ on := 4, ground := Ground.data }], guard := none }) (v := ?av5) rfl (by kernel_rfl) (by kernel_rfl) (by kernel_rfl) (fun _ _ _ h => h) (Or.inl ⟨by rfl, ?ay5⟩) (by assumption) ?ar5
  case ay5 => (intro w hSw; (try dsimp only at hSw); go_simp; try (with_reducible rfl))
  try simp only [Act.put, List.setIfInBounds_toArray, List.set_cons_zero, List.set_cons_succ]
  refine wpAnyH_take (i := 7) (oi := { dst := some 15, op := Op.fieldAddr 88 (Operand.tmp 5) 0, type := 0, pos := "ref.go:259", after := #[], guard := none }) (v := ?av7) rfl (by kernel_rfl) (by kernel_rfl) (by kernel_rfl) (fun _ _ _ h => h) (Or.inl ⟨by rfl, ?ay7⟩) (by assumption) ?ar7
  case ay7 => (intro w hSw; (try dsimp only at hSw); go_simp; try (with_reducible rfl))
  try simp only [Act.put, List.setIfInBounds_toArray, List.set_cons_zero, List.set_cons_succ]
  refine wpAnyH_take (i := 8) (oi := { dst := some 16, op := Op.load 32 (Operand.tmp 15), type := 32, pos := "ref.go:259", after := #[{ on := 7, ground := Ground.data }], guard := none }) (v := ?av8) rfl (by kernel_rfl) (by kernel_rfl) (by kernel_rfl) (fun _ _ _ h => h) (Or.inl ⟨by rfl, ?ay8⟩) (by assumption) ?ar8
  case ay8 => (intro w hSw; (try dsimp only at hSw); go_simp; try (with_reducible rfl))
  try simp only [Act.put, List.setIfInBounds_toArray, List.set_cons_zero, List.set_cons_succ]
  refine wpAnyH_ready (rs := [2]) (by kernel_rfl) (by simp) ?_
  refine AllReadyH.cons (o := { dst := some 10, op := Op.buildSlice 32 1 #[(0, Operand.tmp 9)], type := 32, pos := "ref.go:259", after := #[{ on := 1, ground := Ground.data }], guard := none }) rfl (fun K hK => ?_) AllReadyH.nil
  go_simp
  have hNEW : Below W.heap.size W ((W.alloc (.cells #[.int .i64 op, .int .i64 n, .int .i64 wd] 65)).drew) := Below.drew (below_alloc H0.out _)
  refine hK.out _ _ hNEW (fun hHeld2 => ?_)
  clear hK K
  try simp only [Act.put, List.setIfInBounds_toArray, List.set_cons_zero, List.set_cons_succ]
  obtain ⟨U, hU⟩ : ∃ U, U = (W.alloc (.cells #[.int .i64 op, .int .i64 n, .int .i64 wd] 65)).drew := ⟨_, rfl⟩
  have HU : Hid (Below W.heap.size W U) := Lib.hid (by rw [hU]; exact hNEW)
  have HL : Hid (LOk U 3 NodeD.cells ⟨[⟨op, n, wd⟩], some ⟨W.heap.size, 0, none⟩, 1⟩) := Lib.hid (by rw [hU]; exact (rlies_one W ⟨op, n, wd⟩).below (below_drew (Below.refl _ _)) (Nat.le_refl _))
  rw [← hU]
  clear hU hNEW hHeld hHeld2
  refine wpAnyH_ready (rs := [3]) (by kernel_rfl) (by simp) ?_
  refine AllReadyH.cons (o := { dst := some 11, op := Op.call { callee := Callee.builtin Builtin.append, args := #[Operand.tmp 8, Operand.tmp 10], argTypes := #[32, 32] }, type := 32, pos := "ref.go:259", after := #[{ on := 0, ground := Ground.data }, { on := 2, ground := Ground.data }], guard := none }) rfl (fun K hK => ?_) AllReadyH.nil
  rw [if_pos (by rfl)]
  refine opwp_append_L (.tmp 8) (.tmp 10) 32 rfl W.heap.size 65 i0 _ 3 24 Tryz.underlying32 hi hz0 hz1 hz2 rfl (by decide) _ 0 [] rfl (World.ownsRow_nil U W.heap.size 65 3) ⟨[⟨op, n, wd⟩], some ⟨W.heap.size, 0, none⟩, 1⟩ rfl HL.out (fun h => by cases h) (fun _ => rfl) one_node ?g11 ?g12 ?g13 ?_
  case g11 => unfold maxLen; simp only [List.length_cons, List.length_nil]; omega
  case g12 => simp only [List.length_cons, List.length_nil]; omega
  case g13 => exact HU.out.size
  intro v1 w1 hown1 hgr1
  have hBW : Below W.heap.size W w1 := HU.out.trans (grown_below (World.ownsRow_nil U W.heap.size 65 3) hgr1 HU.out.size)
  have hNEW := hBW
  obtain ⟨A1, c1, rfl⟩ := row_sl hown1
  have HO1 := Lib.hid hown1
  have HBw := Lib.hid hBW
  clear hown1 hgr1
  refine hK.out _ _ hNEW (fun hHeld1 => ?_)
  clear hK K hNEW hBW
  try simp only [Act.put, List.setIfInBounds_toArray, List.set_cons_zero, List.set_cons_succ]
  refine wpAnyH_ready (rs := [6]) (by kernel_rfl) (by simp) ?_
  refine AllReadyH.cons (o := { dst := some 14, op := Op.call { callee := Callee.builtin Builtin.append, args := #[Operand.tmp 11, Operand.tmp 13], argTypes := #[32, 32] }, type := 32, pos := "ref.go:259", after := #[{ on := 3, ground := Ground.data }, { on := 5, ground := Ground.data }, { on := 3, ground := Ground.chain }], guard := none }) rfl (fun K hK => ?_) AllReadyH.nil
  rw [if_pos (by rfl)]
  refine opwp_append_L (.tmp 11) (.tmp 13) 32 rfl W.heap.size 65 i0 _ 3 24 Tryz.underlying32 hi hz0 hz1 hz2 rfl (by decide) _ _ _ rfl HO1.out ⟨an, A, c⟩ rfl (HA.out.below HBw.out (Nat.le_refl _)) HNA.out (fun _ => rfl) one_node ?g21 ?g22 ?g23 ?_
  case g21 => unfold maxLen; simp only [List.length_cons, List.length_nil]; omega
  case g22 => simp only [List.length_cons, List.length_nil]; omega
  case g23 => exact HBw.out.size
  intro v2 w2 hown2 hgr2
  have hBW : Below W.heap.size W w2 := HBw.out.trans (grown_below HO1.out hgr2 HBw.out.size)
  have hNEW := hBW
  obtain ⟨A2, c2, rfl⟩ := row_sl hown2
  have HO2 := Lib.hid hown2
  have HBw := Lib.hid hBW
  clear hown2 hgr2
  refine hK.out _ _ hNEW (fun hHeld2 => ?_)
  clear hK K hNEW hBW
  try simp only [Act.put, List.setIfInBounds_toArray, List.set_cons_zero, List.set_cons_succ]
  refine wpAnyH_ready (rs := [9]) (by kernel_rfl) (by simp) ?_
  refine AllReadyH.cons (o := { dst := some 17, op := Op.call { callee := Callee.builtin Builtin.append, args := #[Operand.tmp 14, Operand.tmp 16], argTypes := #[32, 32] }, type := 32, pos := "ref.go:259", after := #[{ on := 6, ground := Ground.data }, { on := 8, ground := Ground.data }, { on := 6, ground := Ground.chain }], guard := none }) rfl (fun K hK => ?_) AllReadyH.nil
  rw [if_pos (by rfl)]
  refine opwp_append_L (.tmp 14) (.tmp 16) 32 rfl W.heap.size 65 i0 _ 3 24 Tryz.underlying32 hi hz0 hz1 hz2 rfl (by decide) _ _ _ rfl HO2.out ⟨bn, B, d⟩ rfl (HBn.out.below HBw.out (Nat.le_refl _)) HNB.out (fun _ => rfl) one_node ?g31 ?g32 ?g33 ?_
  case g31 => unfold maxLen; simp only [List.length_cons, List.length_nil]; omega
  case g32 => simp only [List.length_cons, List.length_nil]; omega
  case g33 => exact HBw.out.size
  intro v3 w3 hown3 hgr3
  have hBW : Below W.heap.size W w3 := HBw.out.trans (grown_below HO2.out hgr3 HBw.out.size)
  have hNEW := hBW
  obtain ⟨A3, c3, rfl⟩ := row_sl hown3
  have HO3 := Lib.hid hown3
  have HBw := Lib.hid hBW
  clear hown3 hgr3
  refine hK.out _ _ hNEW (fun hHeld3 => ?_)
  clear hK K hNEW hBW
  try simp only [Act.put, List.setIfInBounds_toArray, List.set_cons_zero, List.set_cons_succ]
  refine wpAnyH_take (i := 10) (oi := { dst := some 7, op := Op.assign (Operand.tmp 17), type := 32, pos := "ref.go:259", after := #[{ on := 9, ground := Ground.data }, { on := 9, ground := Ground.chain }, { on := 0, ground := Ground.phase }, { on := 1, ground := Ground.phase }, { on := 2, ground := Ground.phase }, { on := 3, ground := Ground.phase }, { on := 4, ground := Ground.phase }, { on := 5, ground := Ground.phase }, { on := 6, ground := Ground.phase }, { on := 7, ground := Ground.phase }, { on := 8, ground := Ground.phase }, { on := 9, ground := Ground.phase }], guard := none }) (v := ?av10) rfl (by kernel_rfl) (by kernel_rfl) (by kernel_rfl) (fun _ _ _ h => h) (Or.inl ⟨by rfl, ?ay10⟩) (by assumption) ?ar10
  case ay10 => (intro w hSw; (try dsimp only at hSw); go_simp; try (with_reducible rfl))
  try simp only [Act.put, List.setIfInBounds_toArray, List.set_cons_zero, List.set_cons_succ]
  refine wpAnyH_done (by kernel_rfl) ?_ _
  --P2}
  have HB3 := Lib.hid (HB3.out w3 HBw.out)
  have b1 : w3.cell? ⟨w.heap.size + 1 + 1, 1, none⟩ = some (.int .i64 bj) := HB3.out.cell 1
  have b2 : w3.cell? ⟨w.heap.size + 1 + 1, 2, none⟩ = some (.int .i64 be) := HB3.out.cell 2
  have HRU := Lib.hid (HRB.out w3 HBw.out)
  have r0 : w3.cell? ⟨w.heap.size + 1 + 1 + 1, 0, none⟩ = some (.slice none 0 0) := HRU.out.cell 0
  have r1 : w3.cell? ⟨w.heap.size + 1 + 1 + 1, 1, none⟩ = some (.int .i64 0) := HRU.out.cell 1
  have r2 : w3.cell? ⟨w.heap.size + 1 + 1 + 1, 2, none⟩ = some (.int .i64 0) := HRU.out.cell 2
  have g0 : w3.frozen? ⟨w.heap.size + 1 + 1 + 1, 0, none⟩ = false := HRU.out.frozen 0
  have g1 : w3.frozen? ⟨w.heap.size + 1 + 1 + 1, 1, none⟩ = false := HRU.out.frozen 1
  have g2 : w3.frozen? ⟨w.heap.size + 1 + 1 + 1, 2, none⟩ = false := HRU.out.frozen 2
  clear n0 n1 n2 a0 b0
  go_wp2
  have hl : 0 + ([⟨op, n, wd⟩] : List NodeD).length + an.length + bn.length = ((⟨op, n, wd⟩ : NodeD) :: (an ++ bn)).length := by simp only [List.length_cons, List.length_nil, List.length_append]; omega
  have hx : [] ++ ([⟨op, n, wd⟩] : List NodeD).flatMap NodeD.cells ++ an.flatMap NodeD.cells ++ bn.flatMap NodeD.cells = ((⟨op, n, wd⟩ : NodeD) :: (an ++ bn)).flatMap NodeD.cells := by simp
  have hfin : w3.ownsRow W.heap.size 65 3 (.slice A3 ((⟨op, n, wd⟩ : NodeD) :: (an ++ bn)).length c3) ((⟨op, n, wd⟩ : NodeD) :: (an ++ bn)).length (((⟨op, n, wd⟩ : NodeD) :: (an ++ bn)).flatMap NodeD.cells) := by
    rw [← hl, ← hx]; exact HO3.out
  obtain ⟨A', c', e', _, f1, f2, f3⟩ := own_list (l := (⟨op, n, wd⟩ : NodeD) :: (an ++ bn)) (cells := NodeD.cells) (fun _ => rfl) hfin
  cases e'
  refine bodyPost_ret (v := .agg #[.slice A3 (1 + an.length + bn.length) c3, .int .i64 bj, .int .i64 be]) ?_ rfl ?_
  · exact results_cell_row (fn := Tryz.f67) (p := 6) (ty := 88) rfl _ _ (w.heap.size + 1 + 1 + 1) 88 #[.slice A3 (1 + an.length + bn.length) c3, .int .i64 bj, .int .i64 be] (0, 0) _ rfl (rput3 HRU.out _ _ _) Tryz.underlying88 rfl (by kernel_rfl)
  · refine RG.fin (R := ⟨(⟨op, n, wd⟩ : NodeD) :: (an ++ bn), bj, be⟩) (A := A3) (c := c3) (by omega) (below_step HW.out HBw.out) f1 f2 (fun a ha => ?_) _ _ _ ?_
    · have := (f3 a ha).1
      have := HSZ.out
      omega
    · rw [show 1 + an.length + bn.length = ((⟨op, n, wd⟩ : NodeD) :: (an ++ bn)).length from by simp only [List.length_cons, List.length_append]; omega]
set_option maxRecDepth 100000 in
set_option maxHeartbeats 4000000 in
theorem rjoin_any (a b : Pd) (A B : Option Addr) (c d : Nat) (w : World) (ha : LOk w 3 NodeD.cells ⟨a.n, A, c⟩) (hna : A = none → c = 0) (hb : LOk w 3 NodeD.cells ⟨b.n, B, d⟩) (hnb : B = none → d = 0) (hm : a.n.length + b.n.length ≤ 30000) :
    Calls Tryz.prog 71 #[.agg #[.slice A a.n.length c, .int .i64 a.at_, .int .i64 a.e], .agg #[.slice B b.n.length d, .int .i64 b.at_, .int .i64 b.e]] w (RG w ⟨a.n ++ b.n, b.at_, b.e⟩) := by
  obtain ⟨an, aj, ae⟩ := a
  obtain ⟨bn, bj, be⟩ := b
  simp only at ha hb hm ⊢
  obtain ⟨W, hW, hw, hsz, hb2, hb3, hb4⟩ := box3b w #[.slice A an.length c, .int .i64 aj, .int .i64 ae] #[.slice B bn.length d, .int .i64 bj, .int .i64 be] #[.slice none 0 0, .int .i64 0, .int .i64 0] 88 88 88
  have HW := Lib.hid hw
  have HA := Lib.hid (ha.below hw (Nat.le_refl _))
  have HBn := Lib.hid (hb.below hw (Nat.le_refl _))
  have HNA := Lib.hid hna
  have HNB := Lib.hid hnb
  have HSZ := Lib.hid hsz
  have H0 := Lib.hid (Below.refl W.heap.size W)
  have HRB := Lib.hid (fun u (h : Below W.heap.size W u) => hb4.below h hb4.lt)
  have HA0 := Lib.hid (fun u (h : Below W.heap.size W u) => hb2.below h hb2.lt)
  have HB0 := Lib.hid (fun u (h : Below W.heap.size W u) => hb3.below h hb3.lt)
  have a0 : ∀ u, Below W.heap.size W u → u.cell? ⟨w.heap.size, 0, none⟩ = some (.slice A an.length c) := fun u h => (hb2.below h hb2.lt).cell 0
  have b0 : ∀ u, Below W.heap.size W u → u.cell? ⟨w.heap.size + 1, 0, none⟩ = some (.slice B bn.length d) := fun u h => (hb3.below h hb3.lt).cell 0
  have b1 : ∀ u, Below W.heap.size W u → u.cell? ⟨w.heap.size + 1, 1, none⟩ = some (.int .i64 bj) := fun u h => (hb3.below h hb3.lt).cell 1
  have b2 : ∀ u, Below W.heap.size W u → u.cell? ⟨w.heap.size + 1, 2, none⟩ = some (.int .i64 be) := fun u h => (hb3.below h hb3.lt).cell 2
  obtain ⟨i0, hi, hz0, hz1, hz2⟩ := info_parts info_node
  clear ha hb hna hnb hw hsz hb2 hb3 hb4
  go_enter Tryz.func71, Tryz.ntmps71
  go_upto_region 1 with fail
  rw [← hW]
  clear hW
  go_upto_region 2 with fail
  --J2{
  have H0d := Lib.hid (below_drew H0.out)
  have HS := Lib.hid (fun u (h : Below W.heap.size W u) => show (fun w' => w'.cell? ⟨w.heap.size, 0, none⟩ = some (.slice A an.length c) ∧ w'.cell? ⟨w.heap.size + 1, 0, none⟩ = some (.slice B bn.length d) ∧ w'.cell? ⟨w.heap.size + 1, 1, none⟩ = some (.int .i64 bj) ∧ w'.cell? ⟨w.heap.size + 1, 2, none⟩ = some (.int .i64 be)) u from ⟨a0 u h, b0 u h, b1 u h, b2 u h⟩)
  have HS2 := Lib.hid (fun u (h : Below W.heap.size W u) (x y z : Value) => show (fun w' => w'.cell? ⟨w.heap.size, 0, none⟩ = some (.slice A an.length c) ∧ w'.cell? ⟨w.heap.size + 1, 0, none⟩ = some (.slice B bn.length d) ∧ w'.cell? ⟨w.heap.size + 1, 1, none⟩ = some (.int .i64 bj) ∧ w'.cell? ⟨w.heap.size + 1, 2, none⟩ = some (.int .i64 be)) (((u.setCell ⟨w.heap.size + 1 + 1, 0, none⟩ x).setCell ⟨w.heap.size + 1 + 1, 1, none⟩ y).setCell ⟨w.heap.size + 1 + 1, 2, none⟩ z) from by
    have e1 := rput3_far (k := w.heap.size + 1 + 1) (HA0.out u h) (by omega) x y z
    have e2 := rput3_far (k := w.heap.size + 1 + 1) (HB0.out u h) (by omega) x y z
    exact ⟨e1.cell 0, e2.cell 0, e2.cell 1, e2.cell 2⟩)
  refine wp_region_held_drew (S := (fun w' => w'.cell? ⟨w.heap.size, 0, none⟩ = some (.slice A an.length c) ∧ w'.cell? ⟨w.heap.size + 1, 0, none⟩ = some (.slice B bn.length d) ∧ w'.cell? ⟨w.heap.size + 1, 1, none⟩ = some (.int .i64 bj) ∧ w'.cell? ⟨w.heap.size + 1, 2, none⟩ = some (.int .i64 be))) (by kernel_rfl) (HS.out _ (below_drew H0.out)) (fun hHeld => ?_)
  refine wpAnyH_take (i := 0) (oi := { dst := some 6, op := Op.move (Operand.tmp 5), type := 32, pos := "ref.go:322", after := #[], guard := none }) (v := ?jv0) rfl (by kernel_rfl) (by kernel_rfl) (by kernel_rfl) (fun _ _ _ h => h) (Or.inl ⟨by rfl, ?jy0⟩) (by assumption) ?jr0
  case jy0 => (intro w hSw; (try dsimp only at hSw); go_simp; try (with_reducible rfl))
  try simp only [Act.put, List.setIfInBounds_toArray, List.set_cons_zero, List.set_cons_succ]
  refine wpAnyH_take (i := 1) (oi := { dst := some 7, op := Op.fieldAddr 88 (Operand.tmp 2) 0, type := 0, pos := "ref.go:322", after := #[], guard := none }) (v := ?jv1) rfl (by kernel_rfl) (by kernel_rfl) (by kernel_rfl) (fun _ _ _ h => h) (Or.inl ⟨by rfl, ?jy1⟩) (by assumption) ?jr1
  case jy1 => (intro w hSw; (try dsimp only at hSw); go_simp; try (with_reducible rfl))
  try simp only [Act.put, List.setIfInBounds_toArray, List.set_cons_zero, List.set_cons_succ]
  refine wpAnyH_take (i := 2) (oi := { dst := some 8, op := Op.load 32 (Operand.tmp 7), type := 32, pos := "ref.go:322", after := #[{ on := 1, ground := Ground.data }], guard := none }) (v := ?jv2) rfl (by kernel_rfl) (by kernel_rfl) (by kernel_rfl) (fun _ _ _ h => h) (Or.inl ⟨by rfl, ?jy2⟩) (by assumption) ?jr2
  case jy2 => (intro w hSw; (try dsimp only at hSw); go_simp; try (with_reducible rfl))
  try simp only [Act.put, List.setIfInBounds_toArray, List.set_cons_zero, List.set_cons_succ]
  refine wpAnyH_take (i := 4) (oi := { dst := some 10, op := Op.fieldAddr 88 (Operand.tmp 3) 0, type := 0, pos := "ref.go:322", after := #[], guard := none }) (v := ?jv4) rfl (by kernel_rfl) (by kernel_rfl) (by kernel_rfl) (fun _ _ _ h => h) (Or.inl ⟨by rfl, ?jy4⟩) (by assumption) ?jr4
  case jy4 => (intro w hSw; (try dsimp only at hSw); go_simp; try (with_reducible rfl))
  try simp only [Act.put, List.setIfInBounds_toArray, List.set_cons_zero, List.set_cons_succ]
  refine wpAnyH_take (i := 5) (oi := { dst := some 11, op := Op.load 32 (Operand.tmp 10), type := 32, pos := "ref.go:322", after := #[{ on := 4, ground := Ground.data }], guard := none }) (v := ?jv5) rfl (by kernel_rfl) (by kernel_rfl) (by kernel_rfl) (fun _ _ _ h => h) (Or.inl ⟨by rfl, ?jy5⟩) (by assumption) ?jr5
  case jy5 => (intro w hSw; (try dsimp only at hSw); go_simp; try (with_reducible rfl))
  try simp only [Act.put, List.setIfInBounds_toArray, List.set_cons_zero, List.set_cons_succ]
  refine wpAnyH_take (i := 7) (oi := { dst := some 13, op := Op.fieldAddr 88 (Operand.tmp 3) 1, type := 0, pos := "ref.go:322", after := #[], guard := none }) (v := ?jv7) rfl (by kernel_rfl) (by kernel_rfl) (by kernel_rfl) (fun _ _ _ h => h) (Or.inl ⟨by rfl, ?jy7⟩) (by assumption) ?jr7
  case jy7 => (intro w hSw; (try dsimp only at hSw); go_simp; try (with_reducible rfl))
  try simp only [Act.put, List.setIfInBounds_toArray, List.set_cons_zero, List.set_cons_succ]
  refine wpAnyH_take (i := 8) (oi := { dst := some 14, op := Op.load 3 (Operand.tmp 13), type := 3, pos := "ref.go:322", after := #[{ on := 7, ground := Ground.data }], guard := none }) (v := ?jv8) rfl (by kernel_rfl) (by kernel_rfl) (by kernel_rfl) (fun _ _ _ h => h) (Or.inl ⟨by rfl, ?jy8⟩) (by assumption) ?jr8
  case jy8 => (intro w hSw; (try dsimp only at hSw); go_simp; try (with_reducible rfl))
  try simp only [Act.put, List.setIfInBounds_toArray, List.set_cons_zero, List.set_cons_succ]
  refine wpAnyH_take (i := 9) (oi := { dst := some 15, op := Op.fieldAddr 88 (Operand.tmp 3) 2, type := 0, pos := "ref.go:322", after := #[], guard := none }) (v := ?jv9) rfl (by kernel_rfl) (by kernel_rfl) (by kernel_rfl) (fun _ _ _ h => h) (Or.inl ⟨by rfl, ?jy9⟩) (by assumption) ?jr9
  case jy9 => (intro w hSw; (try dsimp only at hSw); go_simp; try (with_reducible rfl))
  try simp only [Act.put, List.setIfInBounds_toArray, List.set_cons_zero, List.set_cons_succ]
  refine wpAnyH_take (i := 10) (oi := { dst := some 16, op := Op.load 37 (Operand.tmp 15), type := 37, pos := "ref.go:322", after := #[{ on := 9, ground := Ground.data }], guard := none }) (v := ?jv10) rfl (by kernel_rfl) (by kernel_rfl) (by kernel_rfl) (fun _ _ _ h => h) (Or.inl ⟨by rfl, ?jy10⟩) (by assumption) ?jr10
  case jy10 => (intro w hSw; (try dsimp only at hSw); go_simp; try (with_reducible rfl))
  try simp only [Act.put, List.setIfInBounds_toArray, List.set_cons_zero, List.set_cons_succ]
  refine wpAnyH_ready (rs := [3]) (by kernel_rfl) (by simp) ?_
  refine AllReadyH.cons (o := { dst := some 9, op := Op.call { callee := Callee.builtin Builtin.append, args := #[Operand.tmp 6, Operand.tmp 8], argTypes := #[32, 32] }, type := 32, pos := "ref.go:322", after := #[{ on := 0, ground := Ground.data }, { on := 2, ground := Ground.data }], guard := none }) rfl (fun K hK => ?_) AllReadyH.nil
  rw [if_pos (by rfl)]
  refine opwp_append_L (.tmp 6) (.tmp 8) 32 rfl W.heap.size 65 i0 _ 3 24 Tryz.underlying32 hi hz0 hz1 hz2 rfl (by decide) _ 0 [] rfl (World.ownsRow_nil _ W.heap.size 65 3) ⟨an, A, c⟩ rfl (HA.out.below (below_drew H0.out) (Nat.le_refl _)) HNA.out (fun _ => rfl) one_node ?g11 ?g12 ?g13 ?_
  case g11 => unfold maxLen; dsimp only; omega
  case g12 => dsimp only; omega
  case g13 => exact H0d.out.size
  intro v1 w1 hown1 hgr1
  have hBW : Below W.heap.size W w1 := H0d.out.trans (grown_below (World.ownsRow_nil _ W.heap.size 65 3) hgr1 H0d.out.size)
  have hNEW := HS.out _ hBW
  obtain ⟨A1, c1, rfl⟩ := row_sl hown1
  have HO1 := Lib.hid hown1
  have HBw := Lib.hid hBW
  clear hown1 hgr1
  refine hK.out _ _ hNEW (fun hHeld1 => ?_)
  clear hK K hNEW hBW
  try simp only [Act.put, List.setIfInBounds_toArray, List.set_cons_zero, List.set_cons_succ]
  refine wpAnyH_ready (rs := [6]) (by kernel_rfl) (by simp) ?_
  refine AllReadyH.cons (o := { dst := some 12, op := Op.call { callee := Callee.builtin Builtin.append, args := #[Operand.tmp 9, Operand.tmp 11], argTypes := #[32, 32] }, type := 32, pos := "ref.go:322", after := #[{ on := 3, ground := Ground.data }, { on := 5, ground := Ground.data }, { on := 3, ground := Ground.chain }], guard := none }) rfl (fun K hK => ?_) AllReadyH.nil
  rw [if_pos (by rfl)]
  refine opwp_append_L (.tmp 9) (.tmp 11) 32 rfl W.heap.size 65 i0 _ 3 24 Tryz.underlying32 hi hz0 hz1 hz2 rfl (by decide) _ _ _ rfl HO1.out ⟨bn, B, d⟩ rfl (HBn.out.below HBw.out (Nat.le_refl _)) HNB.out (fun _ => rfl) one_node ?g21 ?g22 ?g23 ?_
  case g21 => unfold maxLen; dsimp only; omega
  case g22 => dsimp only; omega
  case g23 => exact HBw.out.size
  intro v2 w2 hown2 hgr2
  have hBW : Below W.heap.size W w2 := HBw.out.trans (grown_below HO1.out hgr2 HBw.out.size)
  have hNEW := HS.out _ hBW
  obtain ⟨A2, c2, rfl⟩ := row_sl hown2
  have HO2 := Lib.hid hown2
  have HBw := Lib.hid hBW
  clear hown2 hgr2
  refine hK.out _ _ hNEW (fun hHeld2 => ?_)
  clear hK K hNEW hBW
  try simp only [Act.put, List.setIfInBounds_toArray, List.set_cons_zero, List.set_cons_succ]
  refine wpAnyH_take (i := 11) (oi := { dst := some 17, op := Op.build 88 #[(0, Operand.tmp 12), (1, Operand.tmp 14), (2, Operand.tmp 16)], type := 88, pos := "ref.go:322", after := #[{ on := 6, ground := Ground.data }, { on := 8, ground := Ground.data }, { on := 10, ground := Ground.data }], guard := none }) (v := ?jv11) rfl (by kernel_rfl) (by kernel_rfl) (by kernel_rfl) (fun _ _ _ h => h) (Or.inl ⟨by rfl, ?jy11⟩) (by assumption) ?jr11
  case jy11 => (intro w hSw; (try dsimp only at hSw); go_simp; try (with_reducible rfl))
  try simp only [Act.put, List.setIfInBounds_toArray, List.set_cons_zero, List.set_cons_succ]
  refine wpAnyH_ready (rs := [12]) (by kernel_rfl) (by simp) ?_
  refine AllReadyH.cons (o := { dst := none, op := Op.store 88 (Operand.tmp 4) (Operand.tmp 17), type := 0, pos := "ref.go:322", after := #[{ on := 11, ground := Ground.data }, { on := 6, ground := Ground.chain }, { on := 0, ground := Ground.phase }, { on := 1, ground := Ground.phase }, { on := 2, ground := Ground.phase }, { on := 3, ground := Ground.phase }, { on := 4, ground := Ground.phase }, { on := 5, ground := Ground.phase }, { on := 6, ground := Ground.phase }, { on := 7, ground := Ground.phase }, { on := 8, ground := Ground.phase }, { on := 9, ground := Ground.phase }, { on := 10, ground := Ground.phase }, { on := 11, ground := Ground.phase }], guard := none }) rfl (fun K hK => ?_) AllReadyH.nil
  have HRU := Lib.hid (HRB.out w2 HBw.out)
  have r0 : w2.cell? ⟨w.heap.size + 1 + 1, 0, none⟩ = some (.slice none 0 0) := HRU.out.cell 0
  have r1 : w2.cell? ⟨w.heap.size + 1 + 1, 1, none⟩ = some (.int .i64 0) := HRU.out.cell 1
  have r2 : w2.cell? ⟨w.heap.size + 1 + 1, 2, none⟩ = some (.int .i64 0) := HRU.out.cell 2
  have g0 : w2.frozen? ⟨w.heap.size + 1 + 1, 0, none⟩ = false := HRU.out.frozen 0
  have g1 : w2.frozen? ⟨w.heap.size + 1 + 1, 1, none⟩ = false := HRU.out.frozen 1
  have g2 : w2.frozen? ⟨w.heap.size + 1 + 1, 2, none⟩ = false := HRU.out.frozen 2
  go_simp
  have hNEW := HS2.out w2 HBw.out (.slice A2 (an.length + bn.length) c2) (.int .i64 bj) (.int .i64 be)
  refine hK.out _ _ hNEW (fun hHeld9 => ?_)
  clear hK K hNEW hHeld9 r0 r1 r2 g0 g1 g2
  try simp only [Act.put, List.setIfInBounds_toArray, List.set_cons_zero, List.set_cons_succ]
  refine wpAnyH_done (by kernel_rfl) ?_ _
  --J2}
  go_wp2
  have hl : 0 + an.length + bn.length = (an ++ bn).length := by simp only [List.length_append]; omega
  have hx : [] ++ an.flatMap NodeD.cells ++ bn.flatMap NodeD.cells = (an ++ bn).flatMap NodeD.cells := by simp
  have hfin : w2.ownsRow W.heap.size 65 3 (.slice A2 (an ++ bn).length c2) (an ++ bn).length ((an ++ bn).flatMap NodeD.cells) := by
    rw [← hl, ← hx]; exact HO2.out
  obtain ⟨A', c', e', _, f1, f2, f3⟩ := own_list (l := an ++ bn) (cells := NodeD.cells) (fun _ => rfl) hfin
  cases e'
  refine bodyPost_ret (v := .agg #[.slice A2 (an.length + bn.length) c2, .int .i64 bj, .int .i64 be]) ?_ rfl ?_
  · exact results_cell_row (fn := Tryz.f71) (p := 4) (ty := 88) rfl _ _ (w.heap.size + 1 + 1) 88 #[.slice A2 (an.length + bn.length) c2, .int .i64 bj, .int .i64 be] (0, 0) _ rfl (rput3 HRU.out _ _ _) Tryz.underlying88 rfl (by kernel_rfl)
  · refine RG.fin (R := ⟨an ++ bn, bj, be⟩) (A := A2) (c := c2) (by omega) (below_step HW.out HBw.out) f1 f2 (fun a ha => ?_) _ _ _ ?_
    · have := (f3 a ha).1
      have := HSZ.out
      omega
    · rw [show an.length + bn.length = (an ++ bn).length from by simp only [List.length_append]]
end Go.Proofs.YtpomjcndeanjgaaGreatDoor
namespace Go.Proofs.YtpomjcndeanjgaaGreatDoor
open Go.RowKit
def ROpdOk (x : L Tk) (p : ProgD) (ps : L FieldD) (opd : Nat → Pd) (i : Nat) : Prop := ∀ (w : World) (j : Nat), i ≤ j → j ≤ x.l.length → REnv w x p ps →
  Calls Tryz.prog 66 #[.slice x.A x.l.length x.c, .int .i64 j, .agg (scopeCells p ps)] w (RG w (opd j))
theorem rOper_hit {ts : List Tk} {i k : Nat} (hk : k < 8) (h : isSym ts (symB (9 + (k : Int))).data.toList i = true) : rOper ts i = 9 + (k : Int) := by
  have hi := sym_lt h
  rw [sym_some (List.getElem?_eq_getElem hi), Bool.and_eq_true, decide_eq_true_iff, decide_eq_true_iff] at h
  rw [rOper, List.getElem?_eq_getElem hi]
  simp only
  rw [if_pos h.1, h.2, oper_hit hk]
theorem rOper_miss {ts : List Tk} {i : Nat} (h : ∀ j : Nat, j < 8 → isSym ts (symB (9 + (j : Int))).data.toList i = false) : rOper ts i = 0 := by
  rcases Nat.lt_or_ge i ts.length with hi | hi
  · rw [rOper, List.getElem?_eq_getElem hi]
    simp only
    by_cases hk : ts[i].kind = 3
    · rw [if_pos hk]
      refine oper_miss (s := ⟨ts[i].text.toArray⟩) (fun j hj e => ?_)
      have := h j hj
      rw [sym_some (List.getElem?_eq_getElem hi), decide_eq_true hk, Bool.true_and, decide_eq_false_iff_not] at this
      exact this (by rw [e])
    · rw [if_neg hk]
  · rw [rOper, List.getElem?_eq_none hi]
set_option maxRecDepth 100000 in
set_option maxHeartbeats 2000000 in
theorem rbin_any (x : L Tk) (i : Nat) (w : World) (hx : LOk w 4 tkL x) : Calls Tryz.prog 70 #[.slice x.A x.l.length x.c, .int .i64 i] w fun e w' => e = .returned (.int .i64 (rOper x.l i)) ∧ w = w' := by
  have HX := Lib.hid hx
  have HH : Hid (∀ k : Nat, k < 8 → isSym x.l (symB (9 + (k : Int))).data.toList i = true → rOper x.l i = 9 + (k : Int)) := Lib.hid (fun k hk h => rOper_hit hk h)
  have HM : Hid ((∀ j : Nat, j < 8 → isSym x.l (symB (9 + (j : Int))).data.toList i = false) → rOper x.l i = 0) := Lib.hid rOper_miss
  clear hx
  generalize rOper x.l i = R at *
  go_enter Tryz.func70, Tryz.ntmps70
  go_wp2
  go_loopw [5] (fun iv wr => w = wr ∧ ∃ k : Nat, k ≤ 8 ∧ iv = .int .i64 (9 + (k : Int)) ∧ Hid (∀ j : Nat, j < k → isSym x.l (symB (9 + (j : Int))).data.toList i = false)) (fun iv _ => 17 - (intOf iv).toNat)
  case atStart => exact ⟨rfl, 0, Nat.zero_le _, rfl, Lib.hid (fun j h => absurd h (Nat.not_lt_zero _))⟩
  case round =>
  obtain ⟨rfl, k, hk, rfl, HA⟩ := hrel
  by_cases h8 : k < 8
  · have hle : (9 : Int) + (k : Int) ≤ 16 := by omega
    have hle' : decide ((9 : Int) + (k : Int) ≤ 16) = true := decide_eq_true hle
    have HC := Lib.hid (rsym_any x i (symB (9 + (k : Int))) w HX.out)
    rcases Bool.eq_false_or_eq_true (isSym x.l (symB (9 + (k : Int))).data.toList i) with hs | hs
    · have HR := Lib.hid (HH.out k h8 hs)
      rw [hs] at HC
      clear hs HH HM HA
      go_wp2_with fail
      refine (rsymbol_any _ _).mono ?_
      rintro e w' ⟨rfl, rfl⟩
      go_wp2_with fail
      refine HC.out.mono ?_
      rintro e w' ⟨rfl, rfl⟩
      go_wp2
      go_ret
      exact ⟨by rw [HR.out]; rfl, rfl⟩
    · have HN : Hid (∀ j : Nat, j < k + 1 → isSym x.l (symB (9 + (j : Int))).data.toList i = false) := Lib.hid (fun j h => by
        rcases Nat.lt_succ_iff_lt_or_eq.1 h with h | rfl
        · exact HA.out j h
        · exact hs)
      rw [hs] at HC
      clear hs HA
      go_wp2_with fail
      refine (rsymbol_any _ _).mono ?_
      rintro e w' ⟨rfl, rfl⟩
      go_wp2_with fail
      refine HC.out.mono ?_
      rintro e w' ⟨rfl, rfl⟩
      go_wp2
      go_roundw
      case rel => exact ⟨trivial, k + 1, by omega, by first | go_num | (simp; omega), HN⟩
      case measure => simp [intOf]; omega
  · have h8' : k = 8 := by omega
    subst h8'
    have HR := Lib.hid (HM.out HA.out)
    go_wp2
    go_ret
    exact ⟨by rw [HR.out]; rfl, rfl⟩
set_option maxRecDepth 100000 in
set_option maxHeartbeats 8000000 in
theorem ropdOut {x : L Tk} {p : ProgD} {ps : L FieldD} {i : Nat} {w : World} (E : REnv w x p ps) (hi : ¬ i < x.l.length) :
    Calls Tryz.prog 66 #[.slice x.A x.l.length x.c, .int .i64 i, .agg (scopeCells p ps)] w (RG w ⟨[], 0, 3⟩) := by
  obtain ⟨W, hW, hw, hsz, hb1, hb2⟩ := boxR w (scopeCells p ps) 44 #[.slice none 0 0, .int .i64 0, .int .i64 0] 88
  have HW := Lib.hid hw
  have HE := Lib.hid (E.below hw)
  have HRB := Lib.hid (fun u (h : Below W.heap.size W u) => hb2.below h hb2.lt)
  have hps := fun u (h : Below W.heap.size W u) => (show ∀ i, i < (scopeCells p ps).size → u.cell? ⟨w.heap.size, i, none⟩ = (scopeCells p ps)[i]? from fun i _ => (hb1.below h hb1.lt).cell i)
  have HSZ : Hid (W.heap.size = w.heap.size + 2) := Lib.hid hsz
  have HB := Below.refl W.heap.size W
  have hm := E.few
  clear hw hsz hb1 hb2
  have hi' : decide (x.l.length ≤ i) = true := decide_eq_true (by omega)
  clear hi E hps
  go_enter Tryz.func66, Tryz.ntmps66
  go_upto_region 1 with fail
  rw [← hW]
  clear hW
  have HRU := Lib.hid (HRB.out W HB)
  have r0 : W.cell? ⟨w.heap.size + 1, 0, none⟩ = some (.slice none 0 0) := HRU.out.cell 0
  have r1 : W.cell? ⟨w.heap.size + 1, 1, none⟩ = some (.int .i64 0) := HRU.out.cell 1
  have r2 : W.cell? ⟨w.heap.size + 1, 2, none⟩ = some (.int .i64 0) := HRU.out.cell 2
  have g0 : W.frozen? ⟨w.heap.size + 1, 0, none⟩ = false := HRU.out.frozen 0
  have g1 : W.frozen? ⟨w.heap.size + 1, 1, none⟩ = false := HRU.out.frozen 1
  have g2 : W.frozen? ⟨w.heap.size + 1, 2, none⟩ = false := HRU.out.frozen 2
  go_wp2
  refine bodyPost_ret (v := .agg #[.slice none 0 0, .int .i64 0, .int .i64 3]) ?_ rfl ?_
  · exact results_cell_row (fn := Tryz.f66) (p := 6) (ty := 88) rfl _ _ (w.heap.size + 1) 88 #[.slice none 0 0, .int .i64 0, .int .i64 3] (0, 0) _ rfl (rput3 HRU.out _ _ _) Tryz.underlying88 rfl (by kernel_rfl)
  · exact (RG.fin (R := ⟨[], 0, 3⟩) (A := none) (c := 0) (Nat.le_succ _) (below_step HW.out HB) ⟨Nat.zero_le _, .inl rfl⟩ (fun _ => rfl) (fun a h => by cases h) _ _ _ rfl)
set_option maxRecDepth 100000 in
set_option maxHeartbeats 8000000 in
theorem ropdParOk {x : L Tk} {p : ProgD} {ps : L FieldD} {i : Nat} {w : World} (E : REnv w x p ps) {R : Pd} (hi : i < x.l.length) (h40 : isSym x.l [40] i = true) (hX : ∀ u, REnv u x p ps → Calls Tryz.prog 30 #[.slice x.A x.l.length x.c, .int .i64 ((i + 1 : Nat) : Int), .agg (scopeCells p ps)] u (RG u R)) (hj : R.at_ ≤ 20000) (hre : R.e = 0) :
    Calls Tryz.prog 66 #[.slice x.A x.l.length x.c, .int .i64 i, .agg (scopeCells p ps)] w (RG w ⟨R.n, R.at_ + 1, expR x.l R.at_ 3 [41]⟩) := by
  obtain ⟨W, hW, hw, hsz, hb1, hb2⟩ := boxR w (scopeCells p ps) 44 #[.slice none 0 0, .int .i64 0, .int .i64 0] 88
  have HW := Lib.hid hw
  have HE := Lib.hid (E.below hw)
  have HRB := Lib.hid (fun u (h : Below W.heap.size W u) => hb2.below h hb2.lt)
  have hps := fun u (h : Below W.heap.size W u) => (show ∀ i, i < (scopeCells p ps).size → u.cell? ⟨w.heap.size, i, none⟩ = (scopeCells p ps)[i]? from fun i _ => (hb1.below h hb1.lt).cell i)
  have HSZ : Hid (W.heap.size = w.heap.size + 2) := Lib.hid hsz
  have HB := Below.refl W.heap.size W
  have hm := E.few
  clear hw hsz hb1 hb2
  have hi' : decide (x.l.length ≤ i) = false := decide_eq_false (by omega)
  have H40 := Lib.hid (show Calls Tryz.prog 65 #[.slice x.A x.l.length x.c, .int .i64 (i : Int), .string ⟨#[40]⟩] W fun e w' => e = .returned (.bool true) ∧ W = w' from by
    have := rsym_any x (i) ⟨#[40]⟩ W HE.out.toks
    rw [show isSym x.l (⟨#[40]⟩ : ByteArray).data.toList (i) = true by assumption] at this
    exact this)
  have HX := Lib.hid (show Calls Tryz.prog 30 #[.slice x.A x.l.length x.c, .int .i64 ((i : Int) + 1), .agg (scopeCells p ps)] W (RG W R) from hX W HE.out)
  have HEX := Lib.hid (fun u (h : LOk u 4 tkL x) => show Calls Tryz.prog 68 #[.slice x.A x.l.length x.c, .int .i64 R.at_, .int .i64 3, .string ⟨#[41]⟩] u fun e w' => e = .returned (.int .i64 (expR x.l R.at_ 3 [41])) ∧ u = w' from rexp_any x R.at_ 3 ⟨#[41]⟩ u h)
  generalize expR x.l R.at_ 3 [41] = ex at *
  obtain ⟨rn, rj, re⟩ := R
  simp only at HX HEX hj hre ⊢
  subst hre
  have hp1 := hps W HB
  clear hX E h40 hps
  go_enter Tryz.func66, Tryz.ntmps66
  go_upto_region 1 with fail
  rw [← hW]
  clear hW
  go_wp2_with fail
  refine H40.out.mono ?_
  rintro r w' ⟨rfl, rfl⟩
  go_wp2_with fail
  refine HX.out.mono ?_
  rintro r w1 ⟨⟨A, c, rfl, hl, hn, hf⟩, hb1⟩
  have HB1 := Lib.hid hb1
  have HN := Lib.hid hn
  have HF : Hid (∀ a, A = some a → w.heap.size ≤ a.block ∧ a.block ≠ w.heap.size + 1) := Lib.hid (fun a h => by have := hf a h; have := HSZ.out; omega)
  obtain ⟨V, hV⟩ : ∃ V, V = w1.alloc (.cells #[.slice A rn.length c, .int .i64 rj, .int .i64 0] 88) := ⟨_, rfl⟩
  have HVB : Hid (Blk V w1.heap.size 88 #[.slice A rn.length c, .int .i64 rj, .int .i64 0]) := Lib.hid (by rw [hV]; exact Blk.new _ _ _)
  have HBV : Hid (Below w1.heap.size w1 V) := Lib.hid (by rw [hV]; exact below1 _ _)
  have HL1 := Lib.hid hl
  clear hb1 hl hn hf HX H40 hp1
  go_upto_region 5 with fail
  rw [← hV]
  clear hV
  have v0 : V.cell? ⟨w1.heap.size, 0, none⟩ = some (.slice A rn.length c) := HVB.out.cell 0
  have v1 : V.cell? ⟨w1.heap.size, 1, none⟩ = some (.int .i64 rj) := HVB.out.cell 1
  have v2 : V.cell? ⟨w1.heap.size, 2, none⟩ = some (.int .i64 0) := HVB.out.cell 2
  have f1 : V.frozen? ⟨w1.heap.size, 1, none⟩ = false := HVB.out.frozen 1
  have f2 : V.frozen? ⟨w1.heap.size, 2, none⟩ = false := HVB.out.frozen 2
  go_wp2_with fail
  refine (HEX.out V (HE.out.toks.below (below_step HB1.out HBV.out) (Nat.le_refl _))).mono ?_
  rintro r w' ⟨rfl, rfl⟩
  go_upto_region 7 with fail
  obtain ⟨U, hU⟩ : ∃ U, U = V.setCell ⟨w1.heap.size, 2, none⟩ (.int .i64 ex) := ⟨_, rfl⟩
  have HUB : Hid (Blk U w1.heap.size 88 #[.slice A rn.length c, .int .i64 rj, .int .i64 ex]) := Lib.hid (by rw [hU]; exact HVB.out.set_ 2 (.int .i64 ex))
  have HBU : Hid (Below w1.heap.size w1 U) := Lib.hid (by rw [hU]; exact HBV.out.setCell (Nat.le_refl _) _)
  rw [← hU]
  clear hU v0 v1 v2 f1 f2
  have v1 : U.cell? ⟨w1.heap.size, 1, none⟩ = some (.int .i64 rj) := HUB.out.cell 1
  have f1 : U.frozen? ⟨w1.heap.size, 1, none⟩ = false := HUB.out.frozen 1
  go_upto_region 8 with fail
  obtain ⟨Z, hZ⟩ : ∃ Z, Z = U.setCell ⟨w1.heap.size, 1, none⟩ (.int .i64 ((rj : Int) + 1)) := ⟨_, rfl⟩
  have HZB : Hid (Blk Z w1.heap.size 88 #[.slice A rn.length c, .int .i64 ((rj : Int) + 1), .int .i64 ex]) := Lib.hid (by rw [hZ]; exact HUB.out.set_ 1 (.int .i64 ((rj : Int) + 1)))
  have HBZ : Hid (Below w1.heap.size w1 Z) := Lib.hid (by rw [hZ]; exact HBU.out.setCell (Nat.le_refl _) _)
  rw [← hZ]
  clear hZ v1 f1
  have v0 : Z.cell? ⟨w1.heap.size, 0, none⟩ = some (.slice A rn.length c) := HZB.out.cell 0
  have v1 : Z.cell? ⟨w1.heap.size, 1, none⟩ = some (.int .i64 ((rj : Int) + 1)) := HZB.out.cell 1
  have v2 : Z.cell? ⟨w1.heap.size, 2, none⟩ = some (.int .i64 ex) := HZB.out.cell 2
  have HWZ := Lib.hid (below_step HB1.out HBZ.out)
  have HRU := Lib.hid (HRB.out Z HWZ.out)
  have r0 : Z.cell? ⟨w.heap.size + 1, 0, none⟩ = some (.slice none 0 0) := HRU.out.cell 0
  have r1 : Z.cell? ⟨w.heap.size + 1, 1, none⟩ = some (.int .i64 0) := HRU.out.cell 1
  have r2 : Z.cell? ⟨w.heap.size + 1, 2, none⟩ = some (.int .i64 0) := HRU.out.cell 2
  have g0 : Z.frozen? ⟨w.heap.size + 1, 0, none⟩ = false := HRU.out.frozen 0
  have g1 : Z.frozen? ⟨w.heap.size + 1, 1, none⟩ = false := HRU.out.frozen 1
  have g2 : Z.frozen? ⟨w.heap.size + 1, 2, none⟩ = false := HRU.out.frozen 2
  go_wp2
  refine bodyPost_ret (v := .agg #[.slice A rn.length c, .int .i64 ((rj : Int) + 1), .int .i64 ex]) ?_ rfl ?_
  · exact results_cell_row (fn := Tryz.f66) (p := 6) (ty := 88) rfl _ _ (w.heap.size + 1) 88 #[.slice A rn.length c, .int .i64 ((rj : Int) + 1), .int .i64 ex] (0, 0) _ rfl (rput3 HRU.out _ _ _) Tryz.underlying88 rfl (by kernel_rfl)
  · exact (RG.fin (R := ⟨rn, rj + 1, ex⟩) (A := A) (c := c) (Nat.le_succ _) (below_step HW.out HWZ.out) (HL1.out.below HBZ.out (Nat.le_refl _)) HN.out HF.out _ _ _ rfl)
set_option maxRecDepth 100000 in
set_option maxHeartbeats 8000000 in
theorem ropdParBad {x : L Tk} {p : ProgD} {ps : L FieldD} {i : Nat} {w : World} (E : REnv w x p ps) {R : Pd} (hi : i < x.l.length) (h40 : isSym x.l [40] i = true) (hX : ∀ u, REnv u x p ps → Calls Tryz.prog 30 #[.slice x.A x.l.length x.c, .int .i64 ((i + 1 : Nat) : Int), .agg (scopeCells p ps)] u (RG u R)) (hj : R.at_ ≤ 20000) (hre : R.e ≠ 0) :
    Calls Tryz.prog 66 #[.slice x.A x.l.length x.c, .int .i64 i, .agg (scopeCells p ps)] w (RG w ⟨R.n, R.at_ + 1, R.e⟩) := by
  obtain ⟨W, hW, hw, hsz, hb1, hb2⟩ := boxR w (scopeCells p ps) 44 #[.slice none 0 0, .int .i64 0, .int .i64 0] 88
  have HW := Lib.hid hw
  have HE := Lib.hid (E.below hw)
  have HRB := Lib.hid (fun u (h : Below W.heap.size W u) => hb2.below h hb2.lt)
  have hps := fun u (h : Below W.heap.size W u) => (show ∀ i, i < (scopeCells p ps).size → u.cell? ⟨w.heap.size, i, none⟩ = (scopeCells p ps)[i]? from fun i _ => (hb1.below h hb1.lt).cell i)
  have HSZ : Hid (W.heap.size = w.heap.size + 2) := Lib.hid hsz
  have HB := Below.refl W.heap.size W
  have hm := E.few
  clear hw hsz hb1 hb2
  have hi' : decide (x.l.length ≤ i) = false := decide_eq_false (by omega)
  have H40 := Lib.hid (show Calls Tryz.prog 65 #[.slice x.A x.l.length x.c, .int .i64 (i : Int), .string ⟨#[40]⟩] W fun e w' => e = .returned (.bool true) ∧ W = w' from by
    have := rsym_any x (i) ⟨#[40]⟩ W HE.out.toks
    rw [show isSym x.l (⟨#[40]⟩ : ByteArray).data.toList (i) = true by assumption] at this
    exact this)
  have HX := Lib.hid (show Calls Tryz.prog 30 #[.slice x.A x.l.length x.c, .int .i64 ((i : Int) + 1), .agg (scopeCells p ps)] W (RG W R) from hX W HE.out)
  have HEX := Lib.hid (fun u (h : LOk u 4 tkL x) => show Calls Tryz.prog 68 #[.slice x.A x.l.length x.c, .int .i64 R.at_, .int .i64 3, .string ⟨#[41]⟩] u fun e w' => e = .returned (.int .i64 (expR x.l R.at_ 3 [41])) ∧ u = w' from rexp_any x R.at_ 3 ⟨#[41]⟩ u h)
  generalize expR x.l R.at_ 3 [41] = ex at *
  obtain ⟨rn, rj, re⟩ := R
  simp only at HX HEX hj hre ⊢
  have hre' : (re == 0) = false := beq_eq_false_iff_ne.2 hre
  have hp1 := hps W HB
  clear hX E h40 hps
  go_enter Tryz.func66, Tryz.ntmps66
  go_upto_region 1 with fail
  rw [← hW]
  clear hW
  go_wp2_with fail
  refine H40.out.mono ?_
  rintro r w' ⟨rfl, rfl⟩
  go_wp2_with fail
  refine HX.out.mono ?_
  rintro r w1 ⟨⟨A, c, rfl, hl, hn, hf⟩, hb1⟩
  have HB1 := Lib.hid hb1
  have HN := Lib.hid hn
  have HF : Hid (∀ a, A = some a → w.heap.size ≤ a.block ∧ a.block ≠ w.heap.size + 1) := Lib.hid (fun a h => by have := hf a h; have := HSZ.out; omega)
  obtain ⟨V, hV⟩ : ∃ V, V = w1.alloc (.cells #[.slice A rn.length c, .int .i64 rj, .int .i64 re] 88) := ⟨_, rfl⟩
  have HVB : Hid (Blk V w1.heap.size 88 #[.slice A rn.length c, .int .i64 rj, .int .i64 re]) := Lib.hid (by rw [hV]; exact Blk.new _ _ _)
  have HBV : Hid (Below w1.heap.size w1 V) := Lib.hid (by rw [hV]; exact below1 _ _)
  have HL1 := Lib.hid hl
  clear hb1 hl hn hf HX H40 hp1
  go_upto_region 5 with fail
  rw [← hV]
  clear hV
  have v0 : V.cell? ⟨w1.heap.size, 0, none⟩ = some (.slice A rn.length c) := HVB.out.cell 0
  have v1 : V.cell? ⟨w1.heap.size, 1, none⟩ = some (.int .i64 rj) := HVB.out.cell 1
  have v2 : V.cell? ⟨w1.heap.size, 2, none⟩ = some (.int .i64 re) := HVB.out.cell 2
  have f1 : V.frozen? ⟨w1.heap.size, 1, none⟩ = false := HVB.out.frozen 1
  have f2 : V.frozen? ⟨w1.heap.size, 2, none⟩ = false := HVB.out.frozen 2
  obtain ⟨U, hU⟩ : ∃ U, U = V := ⟨_, rfl⟩
  have HUB := HVB
  have HBU := HBV
  rw [← hU] at HUB HBU
  go_upto_region 7 with fail
  rw [← hU]
  clear hU v0 v1 v2 f1 f2 hre hre'
  have v1 : U.cell? ⟨w1.heap.size, 1, none⟩ = some (.int .i64 rj) := HUB.out.cell 1
  have f1 : U.frozen? ⟨w1.heap.size, 1, none⟩ = false := HUB.out.frozen 1
  go_upto_region 8 with fail
  obtain ⟨Z, hZ⟩ : ∃ Z, Z = U.setCell ⟨w1.heap.size, 1, none⟩ (.int .i64 ((rj : Int) + 1)) := ⟨_, rfl⟩
  have HZB : Hid (Blk Z w1.heap.size 88 #[.slice A rn.length c, .int .i64 ((rj : Int) + 1), .int .i64 re]) := Lib.hid (by rw [hZ]; exact HUB.out.set_ 1 (.int .i64 ((rj : Int) + 1)))
  have HBZ : Hid (Below w1.heap.size w1 Z) := Lib.hid (by rw [hZ]; exact HBU.out.setCell (Nat.le_refl _) _)
  rw [← hZ]
  clear hZ v1 f1
  have v0 : Z.cell? ⟨w1.heap.size, 0, none⟩ = some (.slice A rn.length c) := HZB.out.cell 0
  have v1 : Z.cell? ⟨w1.heap.size, 1, none⟩ = some (.int .i64 ((rj : Int) + 1)) := HZB.out.cell 1
  have v2 : Z.cell? ⟨w1.heap.size, 2, none⟩ = some (.int .i64 re) := HZB.out.cell 2
  have HWZ := Lib.hid (below_step HB1.out HBZ.out)
  have HRU := Lib.hid (HRB.out Z HWZ.out)
  have r0 : Z.cell? ⟨w.heap.size + 1, 0, none⟩ = some (.slice none 0 0) := HRU.out.cell 0
  have r1 : Z.cell? ⟨w.heap.size + 1, 1, none⟩ = some (.int .i64 0) := HRU.out.cell 1
  have r2 : Z.cell? ⟨w.heap.size + 1, 2, none⟩ = some (.int .i64 0) := HRU.out.cell 2
  have g0 : Z.frozen? ⟨w.heap.size + 1, 0, none⟩ = false := HRU.out.frozen 0
  have g1 : Z.frozen? ⟨w.heap.size + 1, 1, none⟩ = false := HRU.out.frozen 1
  have g2 : Z.frozen? ⟨w.heap.size + 1, 2, none⟩ = false := HRU.out.frozen 2
  go_wp2
  refine bodyPost_ret (v := .agg #[.slice A rn.length c, .int .i64 ((rj : Int) + 1), .int .i64 re]) ?_ rfl ?_
  · exact results_cell_row (fn := Tryz.f66) (p := 6) (ty := 88) rfl _ _ (w.heap.size + 1) 88 #[.slice A rn.length c, .int .i64 ((rj : Int) + 1), .int .i64 re] (0, 0) _ rfl (rput3 HRU.out _ _ _) Tryz.underlying88 rfl (by kernel_rfl)
  · exact (RG.fin (R := ⟨rn, rj + 1, re⟩) (A := A) (c := c) (Nat.le_succ _) (below_step HW.out HWZ.out) (HL1.out.below HBZ.out (Nat.le_refl _)) HN.out HF.out _ _ _ rfl)
end Go.Proofs.YtpomjcndeanjgaaGreatDoor
namespace Go.Proofs.YtpomjcndeanjgaaGreatDoor
open Go.RowKit
theorem cell_put3 {u : World} {k g j : Nat} (h : g ≠ k) (x y z : Value) : (((u.setCell ⟨k, 0, none⟩ x).setCell ⟨k, 1, none⟩ y).setCell ⟨k, 2, none⟩ z).cell? ⟨g, j, none⟩ = u.cell? ⟨g, j, none⟩ := by
  unfold World.cell?
  rw [Below.heap_setCell _ ⟨k, 2, none⟩ z g h, Below.heap_setCell _ ⟨k, 1, none⟩ y g h, Below.heap_setCell _ ⟨k, 0, none⟩ x g h]
theorem TkD.blk {w : World} {x : L Tk} {g of : Nat} (h : LOk w 4 tkL x) {i : Nat} (hi : i < x.l.length) (hA : x.A = some ⟨g, of, none⟩) : g < w.heap.size := by
  obtain ⟨g', o', e, hg, _⟩ := h.at hi
  rw [hA] at e; injection e with e; injection e with e1; rw [e1]; exact hg
set_option maxRecDepth 100000 in
set_option maxHeartbeats 8000000 in
theorem ropdParamBad {x : L Tk} {p : ProgD} {ps : L FieldD} {i : Nat} {w : World} (E : REnv w x p ps) (hi : i < x.l.length) (h40 : isSym x.l [40] i = false) (h64 : isSym x.l [64] i = true) (hz : expR x.l (i + 1) 1 [] ≠ 0) :
    Calls Tryz.prog 66 #[.slice x.A x.l.length x.c, .int .i64 i, .agg (scopeCells p ps)] w (RG w ⟨[], 0, expR x.l (i + 1) 1 []⟩) := by
  obtain ⟨W, hW, hw, hsz, hb1, hb2⟩ := boxR w (scopeCells p ps) 44 #[.slice none 0 0, .int .i64 0, .int .i64 0] 88
  have HW := Lib.hid hw
  have HE := Lib.hid (E.below hw)
  have HRB := Lib.hid (fun u (h : Below W.heap.size W u) => hb2.below h hb2.lt)
  have hps := fun u (h : Below W.heap.size W u) => (show ∀ i, i < (scopeCells p ps).size → u.cell? ⟨w.heap.size, i, none⟩ = (scopeCells p ps)[i]? from fun i _ => (hb1.below h hb1.lt).cell i)
  have HSZ : Hid (W.heap.size = w.heap.size + 2) := Lib.hid hsz
  have HB := Below.refl W.heap.size W
  have hm := E.few
  clear hw hsz hb1 hb2
  have hi' : decide (x.l.length ≤ i) = false := decide_eq_false (by omega)
  have H40 := Lib.hid (show Calls Tryz.prog 65 #[.slice x.A x.l.length x.c, .int .i64 (i : Int), .string ⟨#[40]⟩] W fun e w' => e = .returned (.bool false) ∧ W = w' from by
    have := rsym_any x (i) ⟨#[40]⟩ W HE.out.toks
    rw [show isSym x.l (⟨#[40]⟩ : ByteArray).data.toList (i) = false by assumption] at this
    exact this)
  have H64 := Lib.hid (show Calls Tryz.prog 65 #[.slice x.A x.l.length x.c, .int .i64 (i : Int), .string ⟨#[64]⟩] W fun e w' => e = .returned (.bool true) ∧ W = w' from by
    have := rsym_any x (i) ⟨#[64]⟩ W HE.out.toks
    rw [show isSym x.l (⟨#[64]⟩ : ByteArray).data.toList (i) = true by assumption] at this
    exact this)
  have HEX := Lib.hid (show Calls Tryz.prog 68 #[.slice x.A x.l.length x.c, .int .i64 ((i : Int) + 1), .int .i64 1, .string ⟨#[]⟩] W fun e w' => e = .returned (.int .i64 (expR x.l (i + 1) 1 [])) ∧ W = w' from rexp_any x (i + 1) 1 ⟨#[]⟩ W HE.out.toks)
  generalize expR x.l (i + 1) 1 [] = ex at *
  have hz' : (ex != 0) = true := bne_iff_ne.2 hz
  clear E h40 h64 hps hz
  go_enter Tryz.func66, Tryz.ntmps66
  go_upto_region 1 with fail
  rw [← hW]
  clear hW
  go_wp2_with fail
  refine H40.out.mono ?_
  rintro r w' ⟨rfl, rfl⟩
  go_wp2_with fail
  refine H64.out.mono ?_
  rintro r w' ⟨rfl, rfl⟩
  go_wp2_with fail
  refine HEX.out.mono ?_
  rintro r w' ⟨rfl, rfl⟩
  have HRU := Lib.hid (HRB.out W HB)
  have r0 : W.cell? ⟨w.heap.size + 1, 0, none⟩ = some (.slice none 0 0) := HRU.out.cell 0
  have r1 : W.cell? ⟨w.heap.size + 1, 1, none⟩ = some (.int .i64 0) := HRU.out.cell 1
  have r2 : W.cell? ⟨w.heap.size + 1, 2, none⟩ = some (.int .i64 0) := HRU.out.cell 2
  have g0 : W.frozen? ⟨w.heap.size + 1, 0, none⟩ = false := HRU.out.frozen 0
  have g1 : W.frozen? ⟨w.heap.size + 1, 1, none⟩ = false := HRU.out.frozen 1
  have g2 : W.frozen? ⟨w.heap.size + 1, 2, none⟩ = false := HRU.out.frozen 2
  go_wp2
  refine bodyPost_ret (v := .agg #[.slice none 0 0, .int .i64 0, .int .i64 ex]) ?_ rfl ?_
  · exact results_cell_row (fn := Tryz.f66) (p := 6) (ty := 88) rfl _ _ (w.heap.size + 1) 88 #[.slice none 0 0, .int .i64 0, .int .i64 ex] (0, 0) _ rfl (rput3 HRU.out _ _ _) Tryz.underlying88 rfl (by kernel_rfl)
  · exact (RG.fin (R := ⟨[], 0, ex⟩) (A := none) (c := 0) (Nat.le_succ _) (below_step HW.out HB) ⟨Nat.zero_le _, .inl rfl⟩ (fun _ => rfl) (fun a h => by cases h) _ _ _ rfl)
set_option maxRecDepth 100000 in
set_option maxHeartbeats 8000000 in
theorem ropdParamNo {x : L Tk} {p : ProgD} {ps : L FieldD} {i : Nat} {w : World} (E : REnv w x p ps) (_hi : i < x.l.length) (hi1 : i + 1 < x.l.length) (h40 : isSym x.l [40] i = false) (h64 : isSym x.l [64] i = true) (hz : expR x.l (i + 1) 1 [] = 0) (hf : findF ps.l x.l[i + 1].str < 0) :
    Calls Tryz.prog 66 #[.slice x.A x.l.length x.c, .int .i64 i, .agg (scopeCells p ps)] w (RG w ⟨[], 0, 8⟩) := by
  obtain ⟨W, hW, hw, hsz, hb1, hb2⟩ := boxR w (scopeCells p ps) 44 #[.slice none 0 0, .int .i64 0, .int .i64 0] 88
  have HW := Lib.hid hw
  have HE := Lib.hid (E.below hw)
  have HRB := Lib.hid (fun u (h : Below W.heap.size W u) => hb2.below h hb2.lt)
  have hps := fun u (h : Below W.heap.size W u) => (show ∀ i, i < (scopeCells p ps).size → u.cell? ⟨w.heap.size, i, none⟩ = (scopeCells p ps)[i]? from fun i _ => (hb1.below h hb1.lt).cell i)
  have HSZ : Hid (W.heap.size = w.heap.size + 2) := Lib.hid hsz
  have HB := Below.refl W.heap.size W
  have hm := E.few
  clear hw hsz hb1 hb2
  have hi' : decide (x.l.length ≤ i) = false := decide_eq_false (by omega)
  have H40 := Lib.hid (show Calls Tryz.prog 65 #[.slice x.A x.l.length x.c, .int .i64 (i : Int), .string ⟨#[40]⟩] W fun e w' => e = .returned (.bool false) ∧ W = w' from by
    have := rsym_any x (i) ⟨#[40]⟩ W HE.out.toks
    rw [show isSym x.l (⟨#[40]⟩ : ByteArray).data.toList (i) = false by assumption] at this
    exact this)
  have H64 := Lib.hid (show Calls Tryz.prog 65 #[.slice x.A x.l.length x.c, .int .i64 (i : Int), .string ⟨#[64]⟩] W fun e w' => e = .returned (.bool true) ∧ W = w' from by
    have := rsym_any x (i) ⟨#[64]⟩ W HE.out.toks
    rw [show isSym x.l (⟨#[64]⟩ : ByteArray).data.toList (i) = true by assumption] at this
    exact this)
  have HEX := Lib.hid (show Calls Tryz.prog 68 #[.slice x.A x.l.length x.c, .int .i64 ((i : Int) + 1), .int .i64 1, .string ⟨#[]⟩] W fun e w' => e = .returned (.int .i64 (expR x.l (i + 1) 1 [])) ∧ W = w' from rexp_any x (i + 1) 1 ⟨#[]⟩ W HE.out.toks)
  rw [hz] at HEX
  obtain ⟨g, of, hA, hq⟩ := TkD.atA HE.out.toks hi1
  have HQ := Lib.hid hq
  have HAA := Lib.hid hA
  have hji : (i : Int) + 1 < (x.l.length : Int) := by omega
  have hj0 : 0 ≤ (i : Int) + 1 := by omega
  have htn : ((i : Int) + 1).toNat = i + 1 := by omega
  have hwr : IntKind.i64.wrap ((i : Int) + 1) = (i : Int) + 1 := IntWalk.i64_in _ (by omega)
  have HFF := Lib.hid (fun n => show Calls Tryz.prog 43 #[.slice ps.A ps.l.length ps.c, .string ⟨x.l[i + 1].text.toArray⟩] (W.drewN n) fun e w' => e = .returned (.int .i64 (findF ps.l ⟨x.l[i + 1].text.toArray⟩)) ∧ ∃ q, w' = (W.drewN n).drewN q from
    (rfindField_any ps ⟨x.l[i + 1].text.toArray⟩ (W.drewN n) (HE.out.pars.below (below_drewN (Below.refl W.heap.size W) n) (Nat.le_refl _))).mono fun _ _ ⟨h1, h2⟩ => ⟨h1, 0, h2.symm⟩)
  have d1 := (hq W HB).2.1
  rw [show x.l[i + 1].str = (⟨x.l[i + 1].text.toArray⟩ : ByteArray) from rfl] at hf
  generalize x.l[i + 1].text = tx at d1 HFF hf
  generalize findF ps.l ⟨tx.toArray⟩ = ff at *
  have p9 : W.cell? ⟨w.heap.size, 9, none⟩ = some (.slice ps.A ps.l.length ps.c) := hps W HB 9 (show 9 < 10 by decide)
  simp only [hA] at HEX H40 H64 ⊢
  clear E h40 h64 hps hz hq hA
  have hf' : decide (ff < 0) = true := decide_eq_true hf
  go_enter Tryz.func66, Tryz.ntmps66
  go_upto_region 1 with fail
  rw [← hW]
  clear hW
  go_wp2_with fail
  refine H40.out.mono ?_
  rintro r w' ⟨rfl, rfl⟩
  go_wp2_with fail
  refine H64.out.mono ?_
  rintro r w' ⟨rfl, rfl⟩
  go_wp2_with fail
  refine HEX.out.mono ?_
  rintro r w' ⟨rfl, rfl⟩
  go_upto_region 13 with fail
  go_quiet (first | (go_at_call 43; refine Calls.quiet_of (HFF.out _)))
  obtain ⟨Y, hY⟩ : ∃ Y, Y = W.drewN nq := ⟨_, rfl⟩
  have HY : Hid (Below W.heap.size W Y) := Lib.hid (by rw [hY]; exact below_drewN (Below.refl _ _) _)
  rw [← hY]
  clear hY d1 p9
  have HRU := Lib.hid (HRB.out Y HY.out)
  have r0 : Y.cell? ⟨w.heap.size + 1, 0, none⟩ = some (.slice none 0 0) := HRU.out.cell 0
  have r1 : Y.cell? ⟨w.heap.size + 1, 1, none⟩ = some (.int .i64 0) := HRU.out.cell 1
  have r2 : Y.cell? ⟨w.heap.size + 1, 2, none⟩ = some (.int .i64 0) := HRU.out.cell 2
  have g0 : Y.frozen? ⟨w.heap.size + 1, 0, none⟩ = false := HRU.out.frozen 0
  have g1 : Y.frozen? ⟨w.heap.size + 1, 1, none⟩ = false := HRU.out.frozen 1
  have g2 : Y.frozen? ⟨w.heap.size + 1, 2, none⟩ = false := HRU.out.frozen 2
  go_wp2
  refine bodyPost_ret (v := .agg #[.slice none 0 0, .int .i64 0, .int .i64 8]) ?_ rfl ?_
  · exact results_cell_row (fn := Tryz.f66) (p := 6) (ty := 88) rfl _ _ (w.heap.size + 1) 88 #[.slice none 0 0, .int .i64 0, .int .i64 8] (0, 0) _ rfl (rput3 HRU.out _ _ _) Tryz.underlying88 rfl (by kernel_rfl)
  · exact (RG.fin (R := ⟨[], 0, 8⟩) (A := none) (c := 0) (Nat.le_succ _) (below_step HW.out HY.out) ⟨Nat.zero_le _, .inl rfl⟩ (fun _ => rfl) (fun a h => by cases h) _ _ _ rfl)
set_option maxRecDepth 100000 in
set_option maxHeartbeats 8000000 in
theorem ropdParamOk {x : L Tk} {p : ProgD} {ps : L FieldD} {i : Nat} {w : World} (E : REnv w x p ps) (_hi : i < x.l.length) (hi1 : i + 1 < x.l.length) (h40 : isSym x.l [40] i = false) (h64 : isSym x.l [64] i = true) (hz : expR x.l (i + 1) 1 [] = 0) (hf : ¬ findF ps.l x.l[i + 1].str < 0) :
    Calls Tryz.prog 66 #[.slice x.A x.l.length x.c, .int .i64 i, .agg (scopeCells p ps)] w (RG w ⟨[⟨3, findF ps.l x.l[i + 1].str, 0⟩], i + 2, 0⟩) := by
  obtain ⟨W, hW, hw, hsz, hb1, hb2⟩ := boxR w (scopeCells p ps) 44 #[.slice none 0 0, .int .i64 0, .int .i64 0] 88
  have HW := Lib.hid hw
  have HE := Lib.hid (E.below hw)
  have HRB := Lib.hid (fun u (h : Below W.heap.size W u) => hb2.below h hb2.lt)
  have hps := fun u (h : Below W.heap.size W u) => (show ∀ i, i < (scopeCells p ps).size → u.cell? ⟨w.heap.size, i, none⟩ = (scopeCells p ps)[i]? from fun i _ => (hb1.below h hb1.lt).cell i)
  have HSZ : Hid (W.heap.size = w.heap.size + 2) := Lib.hid hsz
  have HB := Below.refl W.heap.size W
  have hm := E.few
  clear hw hsz hb1 hb2
  have hi' : decide (x.l.length ≤ i) = false := decide_eq_false (by omega)
  have H40 := Lib.hid (show Calls Tryz.prog 65 #[.slice x.A x.l.length x.c, .int .i64 (i : Int), .string ⟨#[40]⟩] W fun e w' => e = .returned (.bool false) ∧ W = w' from by
    have := rsym_any x (i) ⟨#[40]⟩ W HE.out.toks
    rw [show isSym x.l (⟨#[40]⟩ : ByteArray).data.toList (i) = false by assumption] at this
    exact this)
  have H64 := Lib.hid (show Calls Tryz.prog 65 #[.slice x.A x.l.length x.c, .int .i64 (i : Int), .string ⟨#[64]⟩] W fun e w' => e = .returned (.bool true) ∧ W = w' from by
    have := rsym_any x (i) ⟨#[64]⟩ W HE.out.toks
    rw [show isSym x.l (⟨#[64]⟩ : ByteArray).data.toList (i) = true by assumption] at this
    exact this)
  have HEX := Lib.hid (show Calls Tryz.prog 68 #[.slice x.A x.l.length x.c, .int .i64 ((i : Int) + 1), .int .i64 1, .string ⟨#[]⟩] W fun e w' => e = .returned (.int .i64 (expR x.l (i + 1) 1 [])) ∧ W = w' from rexp_any x (i + 1) 1 ⟨#[]⟩ W HE.out.toks)
  rw [hz] at HEX
  obtain ⟨g, of, hA, hq⟩ := TkD.atA HE.out.toks hi1
  have HQ := Lib.hid hq
  have HAA := Lib.hid hA
  have hji : (i : Int) + 1 < (x.l.length : Int) := by omega
  have hj0 : 0 ≤ (i : Int) + 1 := by omega
  have htn : ((i : Int) + 1).toNat = i + 1 := by omega
  have hwr : IntKind.i64.wrap ((i : Int) + 1) = (i : Int) + 1 := IntWalk.i64_in _ (by omega)
  have HFF := Lib.hid (fun n => show Calls Tryz.prog 43 #[.slice ps.A ps.l.length ps.c, .string ⟨x.l[i + 1].text.toArray⟩] (W.drewN n) fun e w' => e = .returned (.int .i64 (findF ps.l ⟨x.l[i + 1].text.toArray⟩)) ∧ ∃ q, w' = (W.drewN n).drewN q from
    (rfindField_any ps ⟨x.l[i + 1].text.toArray⟩ (W.drewN n) (HE.out.pars.below (below_drewN (Below.refl W.heap.size W) n) (Nat.le_refl _))).mono fun _ _ ⟨h1, h2⟩ => ⟨h1, 0, h2.symm⟩)
  have d1 := (hq W HB).2.1
  rw [show x.l[i + 1].str = (⟨x.l[i + 1].text.toArray⟩ : ByteArray) from rfl] at hf ⊢
  generalize x.l[i + 1].text = tx at d1 HFF hf ⊢
  generalize findF ps.l ⟨tx.toArray⟩ = ff at *
  have p9 : W.cell? ⟨w.heap.size, 9, none⟩ = some (.slice ps.A ps.l.length ps.c) := hps W HB 9 (show 9 < 10 by decide)
  simp only [hA] at HEX H40 H64 ⊢
  clear E h40 h64 hps hz hq hA
  have hf' : decide (ff < 0) = false := decide_eq_false hf
  go_enter Tryz.func66, Tryz.ntmps66
  go_upto_region 1 with fail
  rw [← hW]
  clear hW
  go_wp2_with fail
  refine H40.out.mono ?_
  rintro r w' ⟨rfl, rfl⟩
  go_wp2_with fail
  refine H64.out.mono ?_
  rintro r w' ⟨rfl, rfl⟩
  go_wp2_with fail
  refine HEX.out.mono ?_
  rintro r w' ⟨rfl, rfl⟩
  go_upto_region 13 with fail
  go_quiet (first | (go_at_call 43; refine Calls.quiet_of (HFF.out _)))
  obtain ⟨Y, hY⟩ : ∃ Y, Y = W.drewN nq := ⟨_, rfl⟩
  have HY : Hid (Below W.heap.size W Y) := Lib.hid (by rw [hY]; exact below_drewN (Below.refl _ _) _)
  rw [← hY]
  clear hY d1 p9
  have HSI := Lib.hid (show Calls Tryz.prog 96 #[.agg #[.int .i64 3, .int .i64 ff, .int .i64 0], .int .i64 i, .int .i64 2] Y (RG Y ⟨[⟨3, ff, 0⟩], i + 2, 0⟩) from rsingle_any ⟨3, ff, 0⟩ i 2 Y (by omega))
  go_wp2_with fail
  refine HSI.out.mono ?_
  rintro r w7 ⟨⟨A7, c7, rfl, hl7, hn7, hf7⟩, hb7⟩
  have HL7 := Lib.hid hl7
  have HN7 := Lib.hid hn7
  have HF7 := Lib.hid hf7
  have HB7 := Lib.hid (below_step HY.out hb7)
  have HFAR : Hid (w.heap.size ≤ Y.heap.size ∧ w.heap.size + 1 < Y.heap.size) := Lib.hid (by have := (HY.out).size; have := HSZ.out; omega)
  clear hl7 hn7 hf7 hb7
  have HRU := Lib.hid (HRB.out w7 HB7.out)
  have r0 : w7.cell? ⟨w.heap.size + 1, 0, none⟩ = some (.slice none 0 0) := HRU.out.cell 0
  have r1 : w7.cell? ⟨w.heap.size + 1, 1, none⟩ = some (.int .i64 0) := HRU.out.cell 1
  have r2 : w7.cell? ⟨w.heap.size + 1, 2, none⟩ = some (.int .i64 0) := HRU.out.cell 2
  have g0 : w7.frozen? ⟨w.heap.size + 1, 0, none⟩ = false := HRU.out.frozen 0
  have g1 : w7.frozen? ⟨w.heap.size + 1, 1, none⟩ = false := HRU.out.frozen 1
  have g2 : w7.frozen? ⟨w.heap.size + 1, 2, none⟩ = false := HRU.out.frozen 2
  go_wp2
  refine bodyPost_ret (v := .agg #[.slice A7 1 c7, .int .i64 ((i + 2 : Nat) : Int), .int .i64 0]) ?_ rfl ?_
  · exact results_cell_row (fn := Tryz.f66) (p := 6) (ty := 88) rfl _ _ (w.heap.size + 1) 88 #[.slice A7 1 c7, .int .i64 ((i + 2 : Nat) : Int), .int .i64 0] (0, 0) _ rfl (rput3 HRU.out _ _ _) Tryz.underlying88 rfl (by kernel_rfl)
  · exact RG.put (R := ⟨[⟨3, ff, 0⟩], i + 2, 0⟩) (A := A7) (c := c7) (W := Y) (Nat.le_succ _) (below_step HW.out HB7.out) HL7.out HN7.out HF7.out HFAR.out _ _ _ rfl
set_option maxRecDepth 100000 in
set_option maxHeartbeats 8000000 in
theorem ropdNumBad {x : L Tk} {p : ProgD} {ps : L FieldD} {i : Nat} {w : World} (E : REnv w x p ps) (hi : i < x.l.length) (h40 : isSym x.l [40] i = false) (h64 : isSym x.l [64] i = false) (hk : x.l[i].kind = 2) (hz : expAll x.l (i + 1) [(3, [58]), (2, [])] ≠ 0) :
    Calls Tryz.prog 66 #[.slice x.A x.l.length x.c, .int .i64 i, .agg (scopeCells p ps)] w (RG w ⟨[], 0, expAll x.l (i + 1) [(3, [58]), (2, [])]⟩) := by
  obtain ⟨W, hW, hw, hsz, hb1, hb2⟩ := boxR w (scopeCells p ps) 44 #[.slice none 0 0, .int .i64 0, .int .i64 0] 88
  have HW := Lib.hid hw
  have HE := Lib.hid (E.below hw)
  have HRB := Lib.hid (fun u (h : Below W.heap.size W u) => hb2.below h hb2.lt)
  have hps := fun u (h : Below W.heap.size W u) => (show ∀ i, i < (scopeCells p ps).size → u.cell? ⟨w.heap.size, i, none⟩ = (scopeCells p ps)[i]? from fun i _ => (hb1.below h hb1.lt).cell i)
  have HSZ : Hid (W.heap.size = w.heap.size + 2) := Lib.hid hsz
  have HB := Below.refl W.heap.size W
  have hm := E.few
  clear hw hsz hb1 hb2
  have hi' : decide (x.l.length ≤ i) = false := decide_eq_false (by omega)
  have H40 := Lib.hid (show Calls Tryz.prog 65 #[.slice x.A x.l.length x.c, .int .i64 (i : Int), .string ⟨#[40]⟩] W fun e w' => e = .returned (.bool false) ∧ W = w' from by
    have := rsym_any x (i) ⟨#[40]⟩ W HE.out.toks
    rw [show isSym x.l (⟨#[40]⟩ : ByteArray).data.toList (i) = false by assumption] at this
    exact this)
  have H64 := Lib.hid (show Calls Tryz.prog 65 #[.slice x.A x.l.length x.c, .int .i64 (i : Int), .string ⟨#[64]⟩] W fun e w' => e = .returned (.bool false) ∧ W = w' from by
    have := rsym_any x (i) ⟨#[64]⟩ W HE.out.toks
    rw [show isSym x.l (⟨#[64]⟩ : ByteArray).data.toList (i) = false by assumption] at this
    exact this)
  have HXA := Lib.hid (fun u (h : LOk u 4 tkL x) => show Calls Tryz.prog 69 #[.slice x.A x.l.length x.c, .int .i64 ((i : Int) + 1), .slice (some ⟨u.heap.size, 0, none⟩) 2 2, .slice (some ⟨u.heap.size + 1, 0, none⟩) 2 2] ((u.alloc (.cells #[.int .i64 3, .int .i64 2] 3)).alloc (.cells #[.string ⟨#[58]⟩, .string ⟨#[]⟩] 9)) fun e w' => e = .returned (.int .i64 (expAll x.l (i + 1) [(3, [58]), (2, [])])) ∧ Below u.heap.size u w' from expAll_lit (i := i + 1) [(3, [58]), (2, [])] h (by omega) (by decide))
  obtain ⟨g, of, hA, hq⟩ := TkD.atA HE.out.toks hi
  have HQ := Lib.hid hq
  have HAA := Lib.hid hA
  have hji : (i : Int) < (x.l.length : Int) := by omega
  have d0 := fun u (h : Below W.heap.size W u) => (hq u h).1
  rw [hk] at d0
  have d00 := d0 W HB
  generalize expAll x.l (i + 1) [(3, [58]), (2, [])] = al at *
  have hz' : (al != 0) = true := bne_iff_ne.2 hz
  simp only [hA] at HXA H40 H64 ⊢
  clear E h40 h64 hps hz hq hA d0 hk
  go_enter Tryz.func66, Tryz.ntmps66
  go_upto_region 1 with fail
  rw [← hW]
  clear hW
  go_wp2_with fail
  refine H40.out.mono ?_
  rintro r w' ⟨rfl, rfl⟩
  go_wp2_with fail
  refine H64.out.mono ?_
  rintro r w' ⟨rfl, rfl⟩
  clear H40 H64
  go_wp2_with fail
  refine (HXA.out W HE.out.toks).mono ?_
  rintro r w1 ⟨rfl, hN⟩
  have HB1 := Lib.hid hN
  clear hN HXA
  have HRU := Lib.hid (HRB.out w1 HB1.out)
  have r0 : w1.cell? ⟨w.heap.size + 1, 0, none⟩ = some (.slice none 0 0) := HRU.out.cell 0
  have r1 : w1.cell? ⟨w.heap.size + 1, 1, none⟩ = some (.int .i64 0) := HRU.out.cell 1
  have r2 : w1.cell? ⟨w.heap.size + 1, 2, none⟩ = some (.int .i64 0) := HRU.out.cell 2
  have g0 : w1.frozen? ⟨w.heap.size + 1, 0, none⟩ = false := HRU.out.frozen 0
  have g1 : w1.frozen? ⟨w.heap.size + 1, 1, none⟩ = false := HRU.out.frozen 1
  have g2 : w1.frozen? ⟨w.heap.size + 1, 2, none⟩ = false := HRU.out.frozen 2
  go_wp2
  refine bodyPost_ret (v := .agg #[.slice none 0 0, .int .i64 0, .int .i64 al]) ?_ rfl ?_
  · exact results_cell_row (fn := Tryz.f66) (p := 6) (ty := 88) rfl _ _ (w.heap.size + 1) 88 #[.slice none 0 0, .int .i64 0, .int .i64 al] (0, 0) _ rfl (rput3 HRU.out _ _ _) Tryz.underlying88 rfl (by kernel_rfl)
  · exact (RG.fin (R := ⟨[], 0, al⟩) (A := none) (c := 0) (Nat.le_succ _) (below_step HW.out HB1.out) ⟨Nat.zero_le _, .inl rfl⟩ (fun _ => rfl) (fun a h => by cases h) _ _ _ rfl)
set_option maxRecDepth 100000 in
set_option maxHeartbeats 8000000 in
theorem ropdNumOk {x : L Tk} {p : ProgD} {ps : L FieldD} {i : Nat} {w : World} (E : REnv w x p ps) (hi : i < x.l.length) (hi2 : i + 2 < x.l.length) (h40 : isSym x.l [40] i = false) (h64 : isSym x.l [64] i = false) (hk : x.l[i].kind = 2) (hz : expAll x.l (i + 1) [(3, [58]), (2, [])] = 0) :
    Calls Tryz.prog 66 #[.slice x.A x.l.length x.c, .int .i64 i, .agg (scopeCells p ps)] w (RG w ⟨[⟨1, x.l[i].value, x.l[i + 2].value⟩], i + 3, 0⟩) := by
  obtain ⟨W, hW, hw, hsz, hb1, hb2⟩ := boxR w (scopeCells p ps) 44 #[.slice none 0 0, .int .i64 0, .int .i64 0] 88
  have HW := Lib.hid hw
  have HE := Lib.hid (E.below hw)
  have HRB := Lib.hid (fun u (h : Below W.heap.size W u) => hb2.below h hb2.lt)
  have hps := fun u (h : Below W.heap.size W u) => (show ∀ i, i < (scopeCells p ps).size → u.cell? ⟨w.heap.size, i, none⟩ = (scopeCells p ps)[i]? from fun i _ => (hb1.below h hb1.lt).cell i)
  have HSZ : Hid (W.heap.size = w.heap.size + 2) := Lib.hid hsz
  have HB := Below.refl W.heap.size W
  have hm := E.few
  clear hw hsz hb1 hb2
  have hi' : decide (x.l.length ≤ i) = false := decide_eq_false (by omega)
  have H40 := Lib.hid (show Calls Tryz.prog 65 #[.slice x.A x.l.length x.c, .int .i64 (i : Int), .string ⟨#[40]⟩] W fun e w' => e = .returned (.bool false) ∧ W = w' from by
    have := rsym_any x (i) ⟨#[40]⟩ W HE.out.toks
    rw [show isSym x.l (⟨#[40]⟩ : ByteArray).data.toList (i) = false by assumption] at this
    exact this)
  have H64 := Lib.hid (show Calls Tryz.prog 65 #[.slice x.A x.l.length x.c, .int .i64 (i : Int), .string ⟨#[64]⟩] W fun e w' => e = .returned (.bool false) ∧ W = w' from by
    have := rsym_any x (i) ⟨#[64]⟩ W HE.out.toks
    rw [show isSym x.l (⟨#[64]⟩ : ByteArray).data.toList (i) = false by assumption] at this
    exact this)
  have HXA := Lib.hid (fun u (h : LOk u 4 tkL x) => show Calls Tryz.prog 69 #[.slice x.A x.l.length x.c, .int .i64 ((i : Int) + 1), .slice (some ⟨u.heap.size, 0, none⟩) 2 2, .slice (some ⟨u.heap.size + 1, 0, none⟩) 2 2] ((u.alloc (.cells #[.int .i64 3, .int .i64 2] 3)).alloc (.cells #[.string ⟨#[58]⟩, .string ⟨#[]⟩] 9)) fun e w' => e = .returned (.int .i64 (expAll x.l (i + 1) [(3, [58]), (2, [])])) ∧ Below u.heap.size u w' from expAll_lit (i := i + 1) [(3, [58]), (2, [])] h (by omega) (by decide))
  obtain ⟨g, of, hA, hq⟩ := TkD.atA HE.out.toks hi
  have HQ := Lib.hid hq
  have HAA := Lib.hid hA
  have hji : (i : Int) < (x.l.length : Int) := by omega
  have d0 := fun u (h : Below W.heap.size W u) => (hq u h).1
  rw [hk] at d0
  have d00 := d0 W HB
  have d01 := fun u (h : Below W.heap.size W u) => (hq u h).2.2.1
  obtain ⟨g2, of2, hA2, hq2⟩ := TkD.atA HE.out.toks hi2
  obtain ⟨rfl, rfl⟩ : g = g2 ∧ of = of2 := by
    rw [hA] at hA2; injection hA2 with hA2; injection hA2 with a b; exact ⟨a, b⟩
  have d02 := fun u (h : Below W.heap.size W u) => (hq2 u h).2.2.1
  have hgl := TkD.blk E.toks hi hA
  have hv1 := (E.ok _ (List.getElem_mem hi)).value
  have hv2 := (E.ok _ (List.getElem_mem hi2)).value
  generalize x.l[i].value = v1 at *
  generalize x.l[i + 2].value = v2 at *
  have hw1 : IntKind.i64.wrap (v1 : Int) = (v1 : Int) := IntWalk.i64_in _ (by omega)
  have hw2 : IntKind.i64.wrap (v2 : Int) = (v2 : Int) := IntWalk.i64_in _ (by omega)
  have hii : (i : Int) + 2 < (x.l.length : Int) := by omega
  have hii0 : 0 ≤ (i : Int) + 2 := by omega
  have htn : ((i : Int) + 2).toNat = i + 2 := by omega
  have hwr : IntKind.i64.wrap ((i : Int) + 2) = (i : Int) + 2 := IntWalk.i64_in _ (by omega)
  have HS := Lib.hid (fun u (h : Below W.heap.size W u) => show (fun w' => w'.cell? ⟨g, of + i * 4 + 2, none⟩ = some (.int .u32 v1) ∧ w'.cell? ⟨g, of + (i + 2) * 4 + 2, none⟩ = some (.int .u32 v2)) u from ⟨d01 u h, d02 u h⟩)
  have HS2 := Lib.hid (fun u (h : Below W.heap.size W u) (x y z : Value) => show (fun w' => w'.cell? ⟨g, of + i * 4 + 2, none⟩ = some (.int .u32 v1) ∧ w'.cell? ⟨g, of + (i + 2) * 4 + 2, none⟩ = some (.int .u32 v2)) (((u.setCell ⟨w.heap.size + 1, 0, none⟩ x).setCell ⟨w.heap.size + 1, 1, none⟩ y).setCell ⟨w.heap.size + 1, 2, none⟩ z) from
    ⟨(cell_put3 (by omega) x y z).trans (d01 u h), (cell_put3 (by omega) x y z).trans (d02 u h)⟩)
  have HSI := Lib.hid (fun u => show Calls Tryz.prog 96 #[.agg #[.int .i64 1, .int .i64 v1, .int .i64 v2], .int .i64 i, .int .i64 3] u (RG u ⟨[⟨1, v1, v2⟩], i + 3, 0⟩) from rsingle_any ⟨1, v1, v2⟩ i 3 u (by omega))
  rw [hz] at HXA
  simp only [hA] at HXA H40 H64 ⊢
  clear E h40 h64 hps hz hq hq2 hA d0 d01 d02 hA2 hk
  go_enter Tryz.func66, Tryz.ntmps66
  go_upto_region 1 with fail
  rw [← hW]
  clear hW
  go_wp2_with fail
  refine H40.out.mono ?_
  rintro r w' ⟨rfl, rfl⟩
  go_wp2_with fail
  refine H64.out.mono ?_
  rintro r w' ⟨rfl, rfl⟩
  clear H40 H64
  go_wp2_with fail
  refine (HXA.out W HE.out.toks).mono ?_
  rintro r w1 ⟨rfl, hN⟩
  have HB1 := Lib.hid hN
  clear hN HXA
  clear d00
  go_upto_region 21 with fail
  refine wp_region_held_drew (S := (fun w' => w'.cell? ⟨g, of + i * 4 + 2, none⟩ = some (.int .u32 v1) ∧ w'.cell? ⟨g, of + (i + 2) * 4 + 2, none⟩ = some (.int .u32 v2))) (by kernel_rfl) (HS.out _ (below_drew HB1.out)) (fun hHeld => ?_)
  refine wpAnyH_take (i := 0) (oi := { dst := some 84, op := Op.move (Operand.tmp 0), type := 56, pos := "ref.go:247", after := #[], guard := none }) (v := ?nv0) rfl (by kernel_rfl) (by kernel_rfl) (by kernel_rfl) (fun _ _ _ h => h) (Or.inl ⟨by rfl, ?ny0⟩) (by assumption) ?nr0
  case ny0 => (intro w hSw; (try dsimp only at hSw); go_simp; try (with_reducible rfl))
  try simp only [Act.put, List.setIfInBounds_toArray, List.set_cons_zero, List.set_cons_succ]
  refine wpAnyH_take (i := 1) (oi := { dst := some 85, op := Op.move (Operand.tmp 1), type := 3, pos := "ref.go:247", after := #[], guard := none }) (v := ?nv1) rfl (by kernel_rfl) (by kernel_rfl) (by kernel_rfl) (fun _ _ _ h => h) (Or.inl ⟨by rfl, ?ny1⟩) (by assumption) ?nr1
  case ny1 => (intro w hSw; (try dsimp only at hSw); go_simp; try (with_reducible rfl))
  try simp only [Act.put, List.setIfInBounds_toArray, List.set_cons_zero, List.set_cons_succ]
  refine wpAnyH_take (i := 2) (oi := { dst := some 86, op := Op.indexAddr 56 (Operand.tmp 84) (Operand.tmp 85), type := 0, pos := "ref.go:247", after := #[{ on := 0, ground := Ground.data }, { on := 1, ground := Ground.data }], guard := none }) (v := ?nv2) rfl (by kernel_rfl) (by kernel_rfl) (by kernel_rfl) (fun _ _ _ h => h) (Or.inl ⟨by rfl, ?ny2⟩) (by assumption) ?nr2
  case ny2 => (intro w hSw; (try dsimp only at hSw); go_simp; try (with_reducible rfl))
  try simp only [Act.put, List.setIfInBounds_toArray, List.set_cons_zero, List.set_cons_succ]
  refine wpAnyH_take (i := 3) (oi := { dst := some 87, op := Op.fieldAddr 90 (Operand.tmp 86) 2, type := 0, pos := "ref.go:247", after := #[{ on := 2, ground := Ground.data }], guard := none }) (v := ?nv3) rfl (by kernel_rfl) (by kernel_rfl) (by kernel_rfl) (fun _ _ _ h => h) (Or.inl ⟨by rfl, ?ny3⟩) (by assumption) ?nr3
  case ny3 => (intro w hSw; (try dsimp only at hSw); go_simp; try (with_reducible rfl))
  try simp only [Act.put, List.setIfInBounds_toArray, List.set_cons_zero, List.set_cons_succ]
  refine wpAnyH_take (i := 4) (oi := { dst := some 88, op := Op.load 79 (Operand.tmp 87), type := 79, pos := "ref.go:247", after := #[{ on := 3, ground := Ground.data }], guard := none }) (v := ?nv4) rfl (by kernel_rfl) (by kernel_rfl) (by kernel_rfl) (fun _ _ _ h => h) (Or.inl ⟨by rfl, ?ny4⟩) (by assumption) ?nr4
  case ny4 => (intro w hSw; (try dsimp only at hSw); go_simp; try (with_reducible rfl))
  try simp only [Act.put, List.setIfInBounds_toArray, List.set_cons_zero, List.set_cons_succ]
  refine wpAnyH_take (i := 5) (oi := { dst := some 89, op := Op.convert 79 3 (Operand.tmp 88), type := 3, pos := "ref.go:247", after := #[{ on := 4, ground := Ground.data }], guard := none }) (v := ?nv5) rfl (by kernel_rfl) (by kernel_rfl) (by kernel_rfl) (fun _ _ _ h => h) (Or.inl ⟨by rfl, ?ny5⟩) (by assumption) ?nr5
  case ny5 => (intro w hSw; (try dsimp only at hSw); go_simp; try (with_reducible rfl))
  try simp only [Act.put, List.setIfInBounds_toArray, List.set_cons_zero, List.set_cons_succ]
  refine wpAnyH_take (i := 6) (oi := { dst := some 90, op := Op.move (Operand.tmp 0), type := 56, pos := "ref.go:247", after := #[], guard := none }) (v := ?nv6) rfl (by kernel_rfl) (by kernel_rfl) (by kernel_rfl) (fun _ _ _ h => h) (Or.inl ⟨by rfl, ?ny6⟩) (by assumption) ?nr6
  case ny6 => (intro w hSw; (try dsimp only at hSw); go_simp; try (with_reducible rfl))
  try simp only [Act.put, List.setIfInBounds_toArray, List.set_cons_zero, List.set_cons_succ]
  refine wpAnyH_take (i := 7) (oi := { dst := some 91, op := Op.move (Operand.tmp 1), type := 3, pos := "ref.go:247", after := #[], guard := none }) (v := ?nv7) rfl (by kernel_rfl) (by kernel_rfl) (by kernel_rfl) (fun _ _ _ h => h) (Or.inl ⟨by rfl, ?ny7⟩) (by assumption) ?nr7
  case ny7 => (intro w hSw; (try dsimp only at hSw); go_simp; try (with_reducible rfl))
  try simp only [Act.put, List.setIfInBounds_toArray, List.set_cons_zero, List.set_cons_succ]
  refine wpAnyH_take (i := 8) (oi := { dst := some 92, op := Op.binOp BinOp.add 3 (Operand.tmp 91) (Operand.const (Value.int IntKind.i64 2)) 3, type := 3, pos := "ref.go:247", after := #[{ on := 7, ground := Ground.data }], guard := none }) (v := ?nv8) rfl (by kernel_rfl) (by kernel_rfl) (by kernel_rfl) (fun _ _ _ h => h) (Or.inl ⟨by rfl, ?ny8⟩) (by assumption) ?nr8
  case ny8 => (intro w hSw; (try dsimp only at hSw); go_simp; try (with_reducible rfl))
  try simp only [Act.put, List.setIfInBounds_toArray, List.set_cons_zero, List.set_cons_succ]
  refine wpAnyH_take (i := 9) (oi := { dst := some 93, op := Op.indexAddr 56 (Operand.tmp 90) (Operand.tmp 92), type := 0, pos := "ref.go:247", after := #[{ on := 6, ground := Ground.data }, { on := 8, ground := Ground.data }], guard := none }) (v := ?nv9) rfl (by kernel_rfl) (by kernel_rfl) (by kernel_rfl) (fun _ _ _ h => h) (Or.inl ⟨by rfl, ?ny9⟩) (by assumption) ?nr9
  case ny9 => (intro w hSw; (try dsimp only at hSw); go_simp; try (with_reducible rfl))
  try simp only [Act.put, List.setIfInBounds_toArray, List.set_cons_zero, List.set_cons_succ]
  refine wpAnyH_take (i := 10) (oi := { dst := some 94, op := Op.fieldAddr 90 (Operand.tmp 93) 2, type := 0, pos := "ref.go:247", after := #[{ on := 9, ground := Ground.data }], guard := none }) (v := ?nv10) rfl (by kernel_rfl) (by kernel_rfl) (by kernel_rfl) (fun _ _ _ h => h) (Or.inl ⟨by rfl, ?ny10⟩) (by assumption) ?nr10
  case ny10 => (intro w hSw; (try dsimp only at hSw); go_simp; try (with_reducible rfl))
  try simp only [Act.put, List.setIfInBounds_toArray, List.set_cons_zero, List.set_cons_succ]
  refine wpAnyH_take (i := 11) (oi := { dst := some 95, op := Op.load 79 (Operand.tmp 94), type := 79, pos := "ref.go:247", after := #[{ on := 10, ground := Ground.data }], guard := none }) (v := ?nv11) rfl (by kernel_rfl) (by kernel_rfl) (by kernel_rfl) (fun _ _ _ h => h) (Or.inl ⟨by rfl, ?ny11⟩) (by assumption) ?nr11
  case ny11 => (intro w hSw; (try dsimp only at hSw); go_simp; try (with_reducible rfl))
  try simp only [Act.put, List.setIfInBounds_toArray, List.set_cons_zero, List.set_cons_succ]
  refine wpAnyH_take (i := 12) (oi := { dst := some 96, op := Op.convert 79 3 (Operand.tmp 95), type := 3, pos := "ref.go:247", after := #[{ on := 11, ground := Ground.data }], guard := none }) (v := ?nv12) rfl (by kernel_rfl) (by kernel_rfl) (by kernel_rfl) (fun _ _ _ h => h) (Or.inl ⟨by rfl, ?ny12⟩) (by assumption) ?nr12
  case ny12 => (intro w hSw; (try dsimp only at hSw); go_simp; try (with_reducible rfl))
  try simp only [Act.put, List.setIfInBounds_toArray, List.set_cons_zero, List.set_cons_succ]
  refine wpAnyH_take (i := 13) (oi := { dst := some 97, op := Op.build 65 #[(0, Operand.const (Value.int IntKind.i64 1)), (1, Operand.tmp 89), (2, Operand.tmp 96)], type := 65, pos := "ref.go:247", after := #[{ on := 5, ground := Ground.data }, { on := 12, ground := Ground.data }], guard := none }) (v := ?nv13) rfl (by kernel_rfl) (by kernel_rfl) (by kernel_rfl) (fun _ _ _ h => h) (Or.inl ⟨by rfl, ?ny13⟩) (by assumption) ?nr13
  case ny13 => (intro w hSw; (try dsimp only at hSw); go_simp; try (with_reducible rfl))
  try simp only [Act.put, List.setIfInBounds_toArray, List.set_cons_zero, List.set_cons_succ]
  refine wpAnyH_take (i := 14) (oi := { dst := some 98, op := Op.move (Operand.tmp 1), type := 3, pos := "ref.go:247", after := #[], guard := none }) (v := ?nv14) rfl (by kernel_rfl) (by kernel_rfl) (by kernel_rfl) (fun _ _ _ h => h) (Or.inl ⟨by rfl, ?ny14⟩) (by assumption) ?nr14
  case ny14 => (intro w hSw; (try dsimp only at hSw); go_simp; try (with_reducible rfl))
  try simp only [Act.put, List.setIfInBounds_toArray, List.set_cons_zero, List.set_cons_succ]
  refine wpAnyH_ready (rs := [15]) (by kernel_rfl) (by simp) ?_
  refine AllReadyH.cons (o := { dst := some 99, op := Op.call { callee := Callee.value (Operand.func 96), args := #[Operand.tmp 97, Operand.tmp 98, Operand.const (Value.int IntKind.i64 3)], argTypes := #[65, 3, 3] }, type := 88, pos := "ref.go:247", after := #[{ on := 13, ground := Ground.data }, { on := 14, ground := Ground.data }], guard := none }) rfl (fun K hK => ?_) AllReadyH.nil
  go_simp
  go_at_call 96
  refine (HSI.out _).mono ?_
  rintro r w5 ⟨⟨A5, c5, rfl, hl5, hn5, hf5⟩, hb5⟩
  have HB5 : Hid (Below W.heap.size W w5) := Lib.hid (below_step (below_drew HB1.out) hb5)
  have HL5 := Lib.hid hl5
  have HN5 := Lib.hid hn5
  have HF5 : Hid (∀ a, A5 = some a → w1.heap.size ≤ a.block) := Lib.hid hf5
  have hNEW := HS.out w5 HB5.out
  refine hK.out _ _ hNEW (fun hHeld5 => ?_)
  clear hK K hl5 hn5 hf5 hb5 hNEW
  refine wpAnyH_ready (rs := [16]) (by kernel_rfl) (by simp) ?_
  refine AllReadyH.cons (o := { dst := none, op := Op.store 88 (Operand.tmp 6) (Operand.tmp 99), type := 0, pos := "ref.go:247", after := #[{ on := 15, ground := Ground.data }, { on := 15, ground := Ground.chain }, { on := 0, ground := Ground.phase }, { on := 1, ground := Ground.phase }, { on := 2, ground := Ground.phase }, { on := 3, ground := Ground.phase }, { on := 4, ground := Ground.phase }, { on := 5, ground := Ground.phase }, { on := 6, ground := Ground.phase }, { on := 7, ground := Ground.phase }, { on := 8, ground := Ground.phase }, { on := 9, ground := Ground.phase }, { on := 10, ground := Ground.phase }, { on := 11, ground := Ground.phase }, { on := 12, ground := Ground.phase }, { on := 13, ground := Ground.phase }, { on := 14, ground := Ground.phase }, { on := 15, ground := Ground.phase }], guard := none }) rfl (fun K hK => ?_) AllReadyH.nil
  have HRU := Lib.hid (HRB.out w5 HB5.out)
  have r0 : w5.cell? ⟨w.heap.size + 1, 0, none⟩ = some (.slice none 0 0) := HRU.out.cell 0
  have r1 : w5.cell? ⟨w.heap.size + 1, 1, none⟩ = some (.int .i64 0) := HRU.out.cell 1
  have r2 : w5.cell? ⟨w.heap.size + 1, 2, none⟩ = some (.int .i64 0) := HRU.out.cell 2
  have g0 : w5.frozen? ⟨w.heap.size + 1, 0, none⟩ = false := HRU.out.frozen 0
  have g1 : w5.frozen? ⟨w.heap.size + 1, 1, none⟩ = false := HRU.out.frozen 1
  have g2 : w5.frozen? ⟨w.heap.size + 1, 2, none⟩ = false := HRU.out.frozen 2
  go_simp
  have hNEW := HS2.out w5 HB5.out (.slice A5 1 c5) (.int .i64 ((i + 3 : Nat) : Int)) (.int .i64 0)
  refine hK.out _ _ hNEW (fun hHeld9 => ?_)
  clear hK K hNEW hHeld9 r0 r1 r2 g0 g1 g2
  refine wpAnyH_done (by kernel_rfl) ?_ _
  have HFAR : Hid (w.heap.size ≤ w1.heap.size ∧ w.heap.size + 1 < w1.heap.size) := Lib.hid (by have := HB1.out.size; have := HSZ.out; omega)
  go_wp2
  refine bodyPost_ret (v := .agg #[.slice A5 1 c5, .int .i64 ((i + 3 : Nat) : Int), .int .i64 0]) ?_ rfl ?_
  · exact results_cell_row (fn := Tryz.f66) (p := 6) (ty := 88) rfl _ _ (w.heap.size + 1) 88 #[.slice A5 1 c5, .int .i64 ((i + 3 : Nat) : Int), .int .i64 0] (0, 0) _ rfl (rput3 HRU.out _ _ _) Tryz.underlying88 rfl (by kernel_rfl)
  · exact RG.put (R := ⟨[⟨1, v1, v2⟩], i + 3, 0⟩) (A := A5) (c := c5) (W := w1) (Nat.le_succ _) (below_step HW.out HB5.out) HL5.out HN5.out HF5.out HFAR.out _ _ _ rfl
set_option maxRecDepth 100000 in
set_option maxHeartbeats 8000000 in
theorem ropdSym {x : L Tk} {p : ProgD} {ps : L FieldD} {i : Nat} {w : World} (E : REnv w x p ps) (hi : i < x.l.length) (h40 : isSym x.l [40] i = false) (h64 : isSym x.l [64] i = false) (hk : x.l[i].kind = 3) :
    Calls Tryz.prog 66 #[.slice x.A x.l.length x.c, .int .i64 i, .agg (scopeCells p ps)] w (RG w ⟨[], 0, 5⟩) := by
  obtain ⟨W, hW, hw, hsz, hb1, hb2⟩ := boxR w (scopeCells p ps) 44 #[.slice none 0 0, .int .i64 0, .int .i64 0] 88
  have HW := Lib.hid hw
  have HE := Lib.hid (E.below hw)
  have HRB := Lib.hid (fun u (h : Below W.heap.size W u) => hb2.below h hb2.lt)
  have hps := fun u (h : Below W.heap.size W u) => (show ∀ i, i < (scopeCells p ps).size → u.cell? ⟨w.heap.size, i, none⟩ = (scopeCells p ps)[i]? from fun i _ => (hb1.below h hb1.lt).cell i)
  have HSZ : Hid (W.heap.size = w.heap.size + 2) := Lib.hid hsz
  have HB := Below.refl W.heap.size W
  have hm := E.few
  clear hw hsz hb1 hb2
  have hi' : decide (x.l.length ≤ i) = false := decide_eq_false (by omega)
  have H40 := Lib.hid (show Calls Tryz.prog 65 #[.slice x.A x.l.length x.c, .int .i64 (i : Int), .string ⟨#[40]⟩] W fun e w' => e = .returned (.bool false) ∧ W = w' from by
    have := rsym_any x (i) ⟨#[40]⟩ W HE.out.toks
    rw [show isSym x.l (⟨#[40]⟩ : ByteArray).data.toList (i) = false by assumption] at this
    exact this)
  have H64 := Lib.hid (show Calls Tryz.prog 65 #[.slice x.A x.l.length x.c, .int .i64 (i : Int), .string ⟨#[64]⟩] W fun e w' => e = .returned (.bool false) ∧ W = w' from by
    have := rsym_any x (i) ⟨#[64]⟩ W HE.out.toks
    rw [show isSym x.l (⟨#[64]⟩ : ByteArray).data.toList (i) = false by assumption] at this
    exact this)
  obtain ⟨g, of, hA, hq⟩ := TkD.atA HE.out.toks hi
  have HQ := Lib.hid hq
  have HAA := Lib.hid hA
  have hji : (i : Int) < (x.l.length : Int) := by omega
  have d0 := fun u (h : Below W.heap.size W u) => (hq u h).1
  rw [hk] at d0
  have d00 := d0 W HB
  simp only [hA] at H40 H64 ⊢
  clear E h40 h64 hps hq hA d0 hk
  go_enter Tryz.func66, Tryz.ntmps66
  go_upto_region 1 with fail
  rw [← hW]
  clear hW
  go_wp2_with fail
  refine H40.out.mono ?_
  rintro r w' ⟨rfl, rfl⟩
  go_wp2_with fail
  refine H64.out.mono ?_
  rintro r w' ⟨rfl, rfl⟩
  have HRU := Lib.hid (HRB.out W HB)
  have r0 : W.cell? ⟨w.heap.size + 1, 0, none⟩ = some (.slice none 0 0) := HRU.out.cell 0
  have r1 : W.cell? ⟨w.heap.size + 1, 1, none⟩ = some (.int .i64 0) := HRU.out.cell 1
  have r2 : W.cell? ⟨w.heap.size + 1, 2, none⟩ = some (.int .i64 0) := HRU.out.cell 2
  have g0 : W.frozen? ⟨w.heap.size + 1, 0, none⟩ = false := HRU.out.frozen 0
  have g1 : W.frozen? ⟨w.heap.size + 1, 1, none⟩ = false := HRU.out.frozen 1
  have g2 : W.frozen? ⟨w.heap.size + 1, 2, none⟩ = false := HRU.out.frozen 2
  go_wp2
  refine bodyPost_ret (v := .agg #[.slice none 0 0, .int .i64 0, .int .i64 5]) ?_ rfl ?_
  · exact results_cell_row (fn := Tryz.f66) (p := 6) (ty := 88) rfl _ _ (w.heap.size + 1) 88 #[.slice none 0 0, .int .i64 0, .int .i64 5] (0, 0) _ rfl (rput3 HRU.out _ _ _) Tryz.underlying88 rfl (by kernel_rfl)
  · exact (RG.fin (R := ⟨[], 0, 5⟩) (A := none) (c := 0) (Nat.le_succ _) (below_step HW.out HB) ⟨Nat.zero_le _, .inl rfl⟩ (fun _ => rfl) (fun a h => by cases h) _ _ _ rfl)
set_option maxRecDepth 100000 in
set_option maxHeartbeats 8000000 in
theorem ropdValid {x : L Tk} {p : ProgD} {ps : L FieldD} {i : Nat} {w : World} (E : REnv w x p ps) (hi : i < x.l.length) (h40 : isSym x.l [40] i = false) (h64 : isSym x.l [64] i = false) (hk : x.l[i].kind ≠ 2 ∧ x.l[i].kind ≠ 3) (hv : x.l[i].text = wordValid) (hc : isSym x.l [40] (i + 1) = true) :
    Calls Tryz.prog 66 #[.slice x.A x.l.length x.c, .int .i64 i, .agg (scopeCells p ps)] w (RG w (rValid p x.l i)) := by
  obtain ⟨W, hW, hw, hsz, hb1, hb2⟩ := boxR w (scopeCells p ps) 44 #[.slice none 0 0, .int .i64 0, .int .i64 0] 88
  have HW := Lib.hid hw
  have HE := Lib.hid (E.below hw)
  have HRB := Lib.hid (fun u (h : Below W.heap.size W u) => hb2.below h hb2.lt)
  have hps := fun u (h : Below W.heap.size W u) => (show ∀ i, i < (scopeCells p ps).size → u.cell? ⟨w.heap.size, i, none⟩ = (scopeCells p ps)[i]? from fun i _ => (hb1.below h hb1.lt).cell i)
  have HSZ : Hid (W.heap.size = w.heap.size + 2) := Lib.hid hsz
  have HB := Below.refl W.heap.size W
  have hm := E.few
  clear hw hsz hb1 hb2
  have hi' : decide (x.l.length ≤ i) = false := decide_eq_false (by omega)
  have H40 := Lib.hid (show Calls Tryz.prog 65 #[.slice x.A x.l.length x.c, .int .i64 (i : Int), .string ⟨#[40]⟩] W fun e w' => e = .returned (.bool false) ∧ W = w' from by
    have := rsym_any x (i) ⟨#[40]⟩ W HE.out.toks
    rw [show isSym x.l (⟨#[40]⟩ : ByteArray).data.toList (i) = false by assumption] at this
    exact this)
  have H64 := Lib.hid (show Calls Tryz.prog 65 #[.slice x.A x.l.length x.c, .int .i64 (i : Int), .string ⟨#[64]⟩] W fun e w' => e = .returned (.bool false) ∧ W = w' from by
    have := rsym_any x (i) ⟨#[64]⟩ W HE.out.toks
    rw [show isSym x.l (⟨#[64]⟩ : ByteArray).data.toList (i) = false by assumption] at this
    exact this)
  obtain ⟨g, of, hA, hq⟩ := TkD.atA HE.out.toks hi
  have HQ := Lib.hid hq
  have HAA := Lib.hid hA
  have hji : (i : Int) < (x.l.length : Int) := by omega
  have d0 := fun u (h : Below W.heap.size W u) => (hq u h).1
  have k2 : ((x.l[i].kind : Int) == 2) = false := beq_eq_false_iff_ne.2 (by omega)
  have k3 : ((x.l[i].kind : Int) == 3) = false := beq_eq_false_iff_ne.2 (by omega)
  have d00 := d0 W HB
  have d01 := (hq W HB).2.1
  have HRV := Lib.hid (show Calls Tryz.prog 97 #[.slice x.A x.l.length x.c, .int .i64 i, .agg (scopeCells p ps)] W (RG W (rValid p x.l i)) from rdValid_any HE.out hi)
  generalize rValid p x.l i = R at *
  obtain ⟨rn, rj, re⟩ := R
  have hp1 := hps W HB
  have ht : (x.l[i].text == [118, 97, 108, 105, 100]) = true := by rw [tx_lit]; exact decide_eq_true hv
  have HC := Lib.hid (show Calls Tryz.prog 65 #[.slice x.A x.l.length x.c, .int .i64 ((i : Int) + 1), .string ⟨#[40]⟩] W fun e w' => e = .returned (.bool true) ∧ W = w' from by
    have := rsym_any x (i + 1) ⟨#[40]⟩ W HE.out.toks
    rw [show isSym x.l (⟨#[40]⟩ : ByteArray).data.toList (i + 1) = true by assumption] at this
    exact this)
  generalize x.l[i].kind = tk at d00 k2 k3
  generalize x.l[i].text = tx at d01 ht
  simp only [hA] at H40 H64 HRV HC ⊢
  clear E h40 h64 hps hq hA d0 hk hv hc
  go_enter Tryz.func66, Tryz.ntmps66
  go_upto_region 1 with fail
  rw [← hW]
  clear hW
  go_wp2_with fail
  refine H40.out.mono ?_
  rintro r w' ⟨rfl, rfl⟩
  go_wp2_with fail
  refine H64.out.mono ?_
  rintro r w' ⟨rfl, rfl⟩
  go_wp2_with fail
  refine HC.out.mono ?_
  rintro r w' ⟨rfl, rfl⟩
  go_wp2_with fail
  refine HRV.out.mono ?_
  rintro r w7 ⟨⟨A7, c7, rfl, hl7, hn7, hf7⟩, hb7⟩
  have HL7 := Lib.hid hl7
  have HN7 := Lib.hid hn7
  have HF7 := Lib.hid hf7
  have HB7 := Lib.hid (below_step HB hb7)
  have HFAR : Hid (w.heap.size ≤ W.heap.size ∧ w.heap.size + 1 < W.heap.size) := Lib.hid (by have := (HB).size; have := HSZ.out; omega)
  clear hl7 hn7 hf7 hb7
  have HRU := Lib.hid (HRB.out w7 HB7.out)
  have r0 : w7.cell? ⟨w.heap.size + 1, 0, none⟩ = some (.slice none 0 0) := HRU.out.cell 0
  have r1 : w7.cell? ⟨w.heap.size + 1, 1, none⟩ = some (.int .i64 0) := HRU.out.cell 1
  have r2 : w7.cell? ⟨w.heap.size + 1, 2, none⟩ = some (.int .i64 0) := HRU.out.cell 2
  have g0 : w7.frozen? ⟨w.heap.size + 1, 0, none⟩ = false := HRU.out.frozen 0
  have g1 : w7.frozen? ⟨w.heap.size + 1, 1, none⟩ = false := HRU.out.frozen 1
  have g2 : w7.frozen? ⟨w.heap.size + 1, 2, none⟩ = false := HRU.out.frozen 2
  go_wp2
  refine bodyPost_ret (v := .agg #[.slice A7 rn.length c7, .int .i64 rj, .int .i64 re]) ?_ rfl ?_
  · exact results_cell_row (fn := Tryz.f66) (p := 6) (ty := 88) rfl _ _ (w.heap.size + 1) 88 #[.slice A7 rn.length c7, .int .i64 rj, .int .i64 re] (0, 0) _ rfl (rput3 HRU.out _ _ _) Tryz.underlying88 rfl (by kernel_rfl)
  · exact RG.put (R := ⟨rn, rj, re⟩) (A := A7) (c := c7) (W := W) (Nat.le_succ _) (below_step HW.out HB7.out) HL7.out HN7.out HF7.out HFAR.out _ _ _ rfl
set_option maxRecDepth 100000 in
set_option maxHeartbeats 8000000 in
theorem ropdFieldC {x : L Tk} {p : ProgD} {ps : L FieldD} {i : Nat} {w : World} (E : REnv w x p ps) (hi : i < x.l.length) (h40 : isSym x.l [40] i = false) (h64 : isSym x.l [64] i = false) (hk : x.l[i].kind ≠ 2 ∧ x.l[i].kind ≠ 3) (hv : x.l[i].text = wordValid) (hc : isSym x.l [40] (i + 1) = false) :
    Calls Tryz.prog 66 #[.slice x.A x.l.length x.c, .int .i64 i, .agg (scopeCells p ps)] w (RG w (rField p x.l i)) := by
  obtain ⟨W, hW, hw, hsz, hb1, hb2⟩ := boxR w (scopeCells p ps) 44 #[.slice none 0 0, .int .i64 0, .int .i64 0] 88
  have HW := Lib.hid hw
  have HE := Lib.hid (E.below hw)
  have HRB := Lib.hid (fun u (h : Below W.heap.size W u) => hb2.below h hb2.lt)
  have hps := fun u (h : Below W.heap.size W u) => (show ∀ i, i < (scopeCells p ps).size → u.cell? ⟨w.heap.size, i, none⟩ = (scopeCells p ps)[i]? from fun i _ => (hb1.below h hb1.lt).cell i)
  have HSZ : Hid (W.heap.size = w.heap.size + 2) := Lib.hid hsz
  have HB := Below.refl W.heap.size W
  have hm := E.few
  clear hw hsz hb1 hb2
  have hi' : decide (x.l.length ≤ i) = false := decide_eq_false (by omega)
  have H40 := Lib.hid (show Calls Tryz.prog 65 #[.slice x.A x.l.length x.c, .int .i64 (i : Int), .string ⟨#[40]⟩] W fun e w' => e = .returned (.bool false) ∧ W = w' from by
    have := rsym_any x (i) ⟨#[40]⟩ W HE.out.toks
    rw [show isSym x.l (⟨#[40]⟩ : ByteArray).data.toList (i) = false by assumption] at this
    exact this)
  have H64 := Lib.hid (show Calls Tryz.prog 65 #[.slice x.A x.l.length x.c, .int .i64 (i : Int), .string ⟨#[64]⟩] W fun e w' => e = .returned (.bool false) ∧ W = w' from by
    have := rsym_any x (i) ⟨#[64]⟩ W HE.out.toks
    rw [show isSym x.l (⟨#[64]⟩ : ByteArray).data.toList (i) = false by assumption] at this
    exact this)
  obtain ⟨g, of, hA, hq⟩ := TkD.atA HE.out.toks hi
  have HQ := Lib.hid hq
  have HAA := Lib.hid hA
  have hji : (i : Int) < (x.l.length : Int) := by omega
  have d0 := fun u (h : Below W.heap.size W u) => (hq u h).1
  have k2 : ((x.l[i].kind : Int) == 2) = false := beq_eq_false_iff_ne.2 (by omega)
  have k3 : ((x.l[i].kind : Int) == 3) = false := beq_eq_false_iff_ne.2 (by omega)
  have d00 := d0 W HB
  have d01 := (hq W HB).2.1
  have HRV := Lib.hid (show Calls Tryz.prog 98 #[.slice x.A x.l.length x.c, .int .i64 i, .agg (scopeCells p ps)] W (RG W (rField p x.l i)) from rdField_any HE.out hi)
  generalize rField p x.l i = R at *
  obtain ⟨rn, rj, re⟩ := R
  have hp1 := hps W HB
  have ht : (x.l[i].text == [118, 97, 108, 105, 100]) = true := by rw [tx_lit]; exact decide_eq_true hv
  have HC := Lib.hid (show Calls Tryz.prog 65 #[.slice x.A x.l.length x.c, .int .i64 ((i : Int) + 1), .string ⟨#[40]⟩] W fun e w' => e = .returned (.bool false) ∧ W = w' from by
    have := rsym_any x (i + 1) ⟨#[40]⟩ W HE.out.toks
    rw [show isSym x.l (⟨#[40]⟩ : ByteArray).data.toList (i + 1) = false by assumption] at this
    exact this)
  generalize x.l[i].kind = tk at d00 k2 k3
  generalize x.l[i].text = tx at d01 ht
  simp only [hA] at H40 H64 HRV HC ⊢
  clear E h40 h64 hps hq hA d0 hk hv hc
  go_enter Tryz.func66, Tryz.ntmps66
  go_upto_region 1 with fail
  rw [← hW]
  clear hW
  go_wp2_with fail
  refine H40.out.mono ?_
  rintro r w' ⟨rfl, rfl⟩
  go_wp2_with fail
  refine H64.out.mono ?_
  rintro r w' ⟨rfl, rfl⟩
  go_wp2_with fail
  refine HC.out.mono ?_
  rintro r w' ⟨rfl, rfl⟩
  go_wp2_with fail
  refine HRV.out.mono ?_
  rintro r w7 ⟨⟨A7, c7, rfl, hl7, hn7, hf7⟩, hb7⟩
  have HL7 := Lib.hid hl7
  have HN7 := Lib.hid hn7
  have HF7 := Lib.hid hf7
  have HB7 := Lib.hid (below_step HB hb7)
  have HFAR : Hid (w.heap.size ≤ W.heap.size ∧ w.heap.size + 1 < W.heap.size) := Lib.hid (by have := (HB).size; have := HSZ.out; omega)
  clear hl7 hn7 hf7 hb7
  have HRU := Lib.hid (HRB.out w7 HB7.out)
  have r0 : w7.cell? ⟨w.heap.size + 1, 0, none⟩ = some (.slice none 0 0) := HRU.out.cell 0
  have r1 : w7.cell? ⟨w.heap.size + 1, 1, none⟩ = some (.int .i64 0) := HRU.out.cell 1
  have r2 : w7.cell? ⟨w.heap.size + 1, 2, none⟩ = some (.int .i64 0) := HRU.out.cell 2
  have g0 : w7.frozen? ⟨w.heap.size + 1, 0, none⟩ = false := HRU.out.frozen 0
  have g1 : w7.frozen? ⟨w.heap.size + 1, 1, none⟩ = false := HRU.out.frozen 1
  have g2 : w7.frozen? ⟨w.heap.size + 1, 2, none⟩ = false := HRU.out.frozen 2
  go_wp2
  refine bodyPost_ret (v := .agg #[.slice A7 rn.length c7, .int .i64 rj, .int .i64 re]) ?_ rfl ?_
  · exact results_cell_row (fn := Tryz.f66) (p := 6) (ty := 88) rfl _ _ (w.heap.size + 1) 88 #[.slice A7 rn.length c7, .int .i64 rj, .int .i64 re] (0, 0) _ rfl (rput3 HRU.out _ _ _) Tryz.underlying88 rfl (by kernel_rfl)
  · exact RG.put (R := ⟨rn, rj, re⟩) (A := A7) (c := c7) (W := W) (Nat.le_succ _) (below_step HW.out HB7.out) HL7.out HN7.out HF7.out HFAR.out _ _ _ rfl
set_option maxRecDepth 100000 in
set_option maxHeartbeats 8000000 in
theorem ropdField {x : L Tk} {p : ProgD} {ps : L FieldD} {i : Nat} {w : World} (E : REnv w x p ps) (hi : i < x.l.length) (h40 : isSym x.l [40] i = false) (h64 : isSym x.l [64] i = false) (hk : x.l[i].kind ≠ 2 ∧ x.l[i].kind ≠ 3) (hv : x.l[i].text ≠ wordValid) :
    Calls Tryz.prog 66 #[.slice x.A x.l.length x.c, .int .i64 i, .agg (scopeCells p ps)] w (RG w (rField p x.l i)) := by
  obtain ⟨W, hW, hw, hsz, hb1, hb2⟩ := boxR w (scopeCells p ps) 44 #[.slice none 0 0, .int .i64 0, .int .i64 0] 88
  have HW := Lib.hid hw
  have HE := Lib.hid (E.below hw)
  have HRB := Lib.hid (fun u (h : Below W.heap.size W u) => hb2.below h hb2.lt)
  have hps := fun u (h : Below W.heap.size W u) => (show ∀ i, i < (scopeCells p ps).size → u.cell? ⟨w.heap.size, i, none⟩ = (scopeCells p ps)[i]? from fun i _ => (hb1.below h hb1.lt).cell i)
  have HSZ : Hid (W.heap.size = w.heap.size + 2) := Lib.hid hsz
  have HB := Below.refl W.heap.size W
  have hm := E.few
  clear hw hsz hb1 hb2
  have hi' : decide (x.l.length ≤ i) = false := decide_eq_false (by omega)
  have H40 := Lib.hid (show Calls Tryz.prog 65 #[.slice x.A x.l.length x.c, .int .i64 (i : Int), .string ⟨#[40]⟩] W fun e w' => e = .returned (.bool false) ∧ W = w' from by
    have := rsym_any x (i) ⟨#[40]⟩ W HE.out.toks
    rw [show isSym x.l (⟨#[40]⟩ : ByteArray).data.toList (i) = false by assumption] at this
    exact this)
  have H64 := Lib.hid (show Calls Tryz.prog 65 #[.slice x.A x.l.length x.c, .int .i64 (i : Int), .string ⟨#[64]⟩] W fun e w' => e = .returned (.bool false) ∧ W = w' from by
    have := rsym_any x (i) ⟨#[64]⟩ W HE.out.toks
    rw [show isSym x.l (⟨#[64]⟩ : ByteArray).data.toList (i) = false by assumption] at this
    exact this)
  obtain ⟨g, of, hA, hq⟩ := TkD.atA HE.out.toks hi
  have HQ := Lib.hid hq
  have HAA := Lib.hid hA
  have hji : (i : Int) < (x.l.length : Int) := by omega
  have d0 := fun u (h : Below W.heap.size W u) => (hq u h).1
  have k2 : ((x.l[i].kind : Int) == 2) = false := beq_eq_false_iff_ne.2 (by omega)
  have k3 : ((x.l[i].kind : Int) == 3) = false := beq_eq_false_iff_ne.2 (by omega)
  have d00 := d0 W HB
  have d01 := (hq W HB).2.1
  have HRV := Lib.hid (show Calls Tryz.prog 98 #[.slice x.A x.l.length x.c, .int .i64 i, .agg (scopeCells p ps)] W (RG W (rField p x.l i)) from rdField_any HE.out hi)
  generalize rField p x.l i = R at *
  obtain ⟨rn, rj, re⟩ := R
  have hp1 := hps W HB
  have ht : (x.l[i].text == [118, 97, 108, 105, 100]) = false := by rw [tx_lit]; exact decide_eq_false hv
  generalize x.l[i].kind = tk at d00 k2 k3
  generalize x.l[i].text = tx at d01 ht
  simp only [hA] at H40 H64 HRV ⊢
  clear E h40 h64 hps hq hA d0 hk hv
  go_enter Tryz.func66, Tryz.ntmps66
  go_upto_region 1 with fail
  rw [← hW]
  clear hW
  go_wp2_with fail
  refine H40.out.mono ?_
  rintro r w' ⟨rfl, rfl⟩
  go_wp2_with fail
  refine H64.out.mono ?_
  rintro r w' ⟨rfl, rfl⟩
  go_wp2_with fail
  refine HRV.out.mono ?_
  rintro r w7 ⟨⟨A7, c7, rfl, hl7, hn7, hf7⟩, hb7⟩
  have HL7 := Lib.hid hl7
  have HN7 := Lib.hid hn7
  have HF7 := Lib.hid hf7
  have HB7 := Lib.hid (below_step HB hb7)
  have HFAR : Hid (w.heap.size ≤ W.heap.size ∧ w.heap.size + 1 < W.heap.size) := Lib.hid (by have := (HB).size; have := HSZ.out; omega)
  clear hl7 hn7 hf7 hb7
  have HRU := Lib.hid (HRB.out w7 HB7.out)
  have r0 : w7.cell? ⟨w.heap.size + 1, 0, none⟩ = some (.slice none 0 0) := HRU.out.cell 0
  have r1 : w7.cell? ⟨w.heap.size + 1, 1, none⟩ = some (.int .i64 0) := HRU.out.cell 1
  have r2 : w7.cell? ⟨w.heap.size + 1, 2, none⟩ = some (.int .i64 0) := HRU.out.cell 2
  have g0 : w7.frozen? ⟨w.heap.size + 1, 0, none⟩ = false := HRU.out.frozen 0
  have g1 : w7.frozen? ⟨w.heap.size + 1, 1, none⟩ = false := HRU.out.frozen 1
  have g2 : w7.frozen? ⟨w.heap.size + 1, 2, none⟩ = false := HRU.out.frozen 2
  go_wp2
  refine bodyPost_ret (v := .agg #[.slice A7 rn.length c7, .int .i64 rj, .int .i64 re]) ?_ rfl ?_
  · exact results_cell_row (fn := Tryz.f66) (p := 6) (ty := 88) rfl _ _ (w.heap.size + 1) 88 #[.slice A7 rn.length c7, .int .i64 rj, .int .i64 re] (0, 0) _ rfl (rput3 HRU.out _ _ _) Tryz.underlying88 rfl (by kernel_rfl)
  · exact RG.put (R := ⟨rn, rj, re⟩) (A := A7) (c := c7) (W := W) (Nat.le_succ _) (below_step HW.out HB7.out) HL7.out HN7.out HF7.out HFAR.out _ _ _ rfl
theorem ropdPrim {x : L Tk} {p : ProgD} {ps : L FieldD} {i : Nat} {w : World} (E : REnv w x p ps) (hi : i < x.l.length) (h40 : isSym x.l [40] i = false) :
    Calls Tryz.prog 66 #[.slice x.A x.l.length x.c, .int .i64 i, .agg (scopeCells p ps)] w (RG w (rPrim p ps.l x.l i)) := by
  have ht : tkAt x.l i = x.l[i] := tk_of hi
  unfold rPrim
  rcases Bool.eq_false_or_eq_true (isSym x.l [64] i) with h64 | h64
  · rw [if_pos h64]
    unfold rPar
    by_cases hz : expR x.l (i + 1) 1 [] = 0
    case neg => rw [if_pos hz]; exact ropdParamBad E hi h40 h64 hz
    have hi1 := exp_lt hz
    rw [if_neg (by simpa using hz), tk_of hi1]
    by_cases hf : findF ps.l x.l[i + 1].str < 0
    · rw [if_pos hf]; exact ropdParamNo E hi hi1 h40 h64 hz hf
    · rw [if_neg hf]; exact ropdParamOk E hi hi1 h40 h64 hz hf
  rw [if_neg (by rw [h64]; simp), isNum_at hi, ht]
  by_cases hk : x.l[i].kind = 2
  · rw [if_pos (decide_eq_true hk)]
    unfold rNum
    by_cases hz : expAll x.l (i + 1) [(3, [58]), (2, [])] = 0
    case neg => rw [if_pos hz]; exact ropdNumBad E hi h40 h64 hk hz
    have hi2 := all2_lt hz
    rw [if_neg (by simpa using hz), ht, tk_of (show i + 2 < x.l.length from hi2)]
    exact ropdNumOk E hi hi2 h40 h64 hk hz
  rw [if_neg (by simpa using hk)]
  by_cases hk3 : x.l[i].kind = 3
  · rw [if_pos hk3]; exact ropdSym E hi h40 h64 hk3
  rw [if_neg hk3, isVal_at hi]
  by_cases hv : x.l[i].text = wordValid
  · rcases Bool.eq_false_or_eq_true (isSym x.l [40] (i + 1)) with hc | hc
    · rw [if_pos ⟨decide_eq_true hv, hc⟩]; exact ropdValid E hi h40 h64 ⟨hk, hk3⟩ hv hc
    · rw [if_neg (fun h => by rw [hc] at h; exact absurd h.2 (by decide))]; exact ropdFieldC E hi h40 h64 ⟨hk, hk3⟩ hv hc
  · rw [if_neg (fun h => hv (by simpa using h.1))]; exact ropdField E hi h40 h64 ⟨hk, hk3⟩ hv
end Go.Proofs.YtpomjcndeanjgaaGreatDoor
namespace Go.Proofs.YtpomjcndeanjgaaGreatDoor
open Go.RowKit
set_option maxRecDepth 100000 in
set_option maxHeartbeats 8000000 in
theorem rexErr {x : L Tk} {p : ProgD} {ps : L FieldD} {i : Nat} {w : World} {opd : Nat → Pd} {R : Pd} (E : REnv w x p ps) (hO : ROpdOk x p ps opd i) (hB : ∀ j, j ≤ x.l.length → RBd x.l j (opd j)) (hi : i ≤ x.l.length) (h126 : isSym x.l [126] i = false) (hz : (opd i).e ≠ 0) (hR : R = opd i) :
    Calls Tryz.prog 30 #[.slice x.A x.l.length x.c, .int .i64 i, .agg (scopeCells p ps)] w (RG w R) := by
  subst hR
  obtain ⟨W, hW, hw, hsz, hb1, hb2⟩ := boxR w (scopeCells p ps) 44 #[.slice none 0 0, .int .i64 0, .int .i64 0] 88
  have HW := Lib.hid hw
  have HE := Lib.hid (E.below hw)
  have HRB := Lib.hid (fun u (h : Below W.heap.size W u) => hb2.below h hb2.lt)
  have hps := fun u (h : Below W.heap.size W u) => (show ∀ i, i < (scopeCells p ps).size → u.cell? ⟨w.heap.size, i, none⟩ = (scopeCells p ps)[i]? from fun i _ => (hb1.below h hb1.lt).cell i)
  have HSZ : Hid (W.heap.size = w.heap.size + 2) := Lib.hid hsz
  have HB := Below.refl W.heap.size W
  have hm := E.few
  clear hw hsz hb1 hb2
  have H126 := Lib.hid (fun u (h : Below W.heap.size W u) => show Calls Tryz.prog 65 #[.slice x.A x.l.length x.c, .int .i64 i, .string ⟨#[126]⟩] u fun e w' => e = .returned (.bool false) ∧ u = w' from by
    have := rsym_any x (i) ⟨#[126]⟩ u (HE.out.toks.below h (Nat.le_refl _))
    rw [show isSym x.l (⟨#[126]⟩ : ByteArray).data.toList (i) = false by assumption] at this
    exact this)
  have HA := Lib.hid (fun u (h : Below W.heap.size W u) => show Calls Tryz.prog 66 #[.slice x.A x.l.length x.c, .int .i64 i, .agg (scopeCells p ps)] u (RG u (opd i)) from hO u (i) (by omega) (by omega) (HE.out.below h))
  have hba := hB i hi
  have ha1 := hba.n
  have ha2 := hba.ok
  have ha3 := hba.top
  clear hba
  generalize opd i = a at *
  obtain ⟨an, aj, ae⟩ := a
  simp only at hz ⊢
  have hz' : (ae != 0) = true := bne_iff_ne.2 hz
  have hp1 := hps W HB
  clear E hO hB
  go_enter Tryz.func30, Tryz.ntmps30
  go_upto_region 1 with fail
  rw [← hW]
  clear hW
  go_wp2_with fail
  refine (H126.out W HB).mono ?_
  rintro r w' ⟨rfl, rfl⟩
  go_wp2_with fail
  refine (HA.out W HB).mono ?_
  rintro r w1 ⟨⟨A, c, rfl, hl, hn, hf⟩, hb1⟩
  have HB1 := Lib.hid hb1
  have HL1 := Lib.hid hl
  have HN := Lib.hid hn
  have HF := Lib.hid hf
  clear hb1 hl hn hf HA hp1
  go_upto_region 5 with fail
  obtain ⟨V, hV⟩ : ∃ V, V = w1.alloc (.cells #[.slice A an.length c, .int .i64 aj, .int .i64 ae] 88) := ⟨_, rfl⟩
  have HVB : Hid (Blk V w1.heap.size 88 #[.slice A an.length c, .int .i64 aj, .int .i64 ae]) := Lib.hid (by rw [hV]; exact Blk.new _ _ _)
  have HBV : Hid (Below W.heap.size W V) := Lib.hid (by rw [hV]; exact below_alloc HB1.out _)
  have HLV : Hid (LOk V 3 NodeD.cells ⟨an, A, c⟩) := Lib.hid (by rw [hV]; exact HL1.out.below (below1 _ _) (Nat.le_refl _))
  have HFW : Hid (∀ a, A = some a → w.heap.size ≤ a.block ∧ a.block ≠ w.heap.size + 1) := Lib.hid (fun a h => by have := HF.out a h; have := HSZ.out; omega)
  have hne : w.heap.size + 2 ≤ w1.heap.size := by have := HB1.out.size; have := HSZ.out; omega
  rw [← hV]
  clear hV
  have v0 : V.cell? ⟨w1.heap.size, 0, none⟩ = some (.slice A an.length c) := HVB.out.cell 0
  have v1 : V.cell? ⟨w1.heap.size, 1, none⟩ = some (.int .i64 aj) := HVB.out.cell 1
  have v2 : V.cell? ⟨w1.heap.size, 2, none⟩ = some (.int .i64 ae) := HVB.out.cell 2
  have HRU := Lib.hid (HRB.out V HBV.out)
  have r0 : V.cell? ⟨w.heap.size + 1, 0, none⟩ = some (.slice none 0 0) := HRU.out.cell 0
  have r1 : V.cell? ⟨w.heap.size + 1, 1, none⟩ = some (.int .i64 0) := HRU.out.cell 1
  have r2 : V.cell? ⟨w.heap.size + 1, 2, none⟩ = some (.int .i64 0) := HRU.out.cell 2
  have g0 : V.frozen? ⟨w.heap.size + 1, 0, none⟩ = false := HRU.out.frozen 0
  have g1 : V.frozen? ⟨w.heap.size + 1, 1, none⟩ = false := HRU.out.frozen 1
  have g2 : V.frozen? ⟨w.heap.size + 1, 2, none⟩ = false := HRU.out.frozen 2
  go_wp2
  refine bodyPost_ret (v := .agg #[.slice A an.length c, .int .i64 aj, .int .i64 ae]) ?_ rfl ?_
  · exact results_cell_row (fn := Tryz.f30) (p := 6) (ty := 88) rfl _ _ (w.heap.size + 1) 88 #[.slice A an.length c, .int .i64 aj, .int .i64 ae] (0, 0) _ rfl (rput3 HRU.out _ _ _) Tryz.underlying88 rfl (by kernel_rfl)
  · exact (RG.fin (R := ⟨an, aj, ae⟩) (A := A) (c := c) (Nat.le_succ _) (below_step HW.out HBV.out) HLV.out HN.out HFW.out _ _ _ rfl)
set_option maxRecDepth 100000 in
set_option maxHeartbeats 8000000 in
theorem rexNone {x : L Tk} {p : ProgD} {ps : L FieldD} {i : Nat} {w : World} {opd : Nat → Pd} {R : Pd} (E : REnv w x p ps) (hO : ROpdOk x p ps opd i) (hB : ∀ j, j ≤ x.l.length → RBd x.l j (opd j)) (hi : i ≤ x.l.length) (h126 : isSym x.l [126] i = false) (hz : (opd i).e = 0) (hlt : isSym x.l [60, 60] (opd i).at_ = false) (hgg : isSym x.l [62, 62] (opd i).at_ = false) (h91 : isSym x.l [91] (opd i).at_ = false) (hop : ¬ 0 < rOper x.l (opd i).at_) (h63 : isSym x.l [63] (opd i).at_ = false) (hR : R = opd i) :
    Calls Tryz.prog 30 #[.slice x.A x.l.length x.c, .int .i64 i, .agg (scopeCells p ps)] w (RG w R) := by
  subst hR
  obtain ⟨W, hW, hw, hsz, hb1, hb2⟩ := boxR w (scopeCells p ps) 44 #[.slice none 0 0, .int .i64 0, .int .i64 0] 88
  have HW := Lib.hid hw
  have HE := Lib.hid (E.below hw)
  have HRB := Lib.hid (fun u (h : Below W.heap.size W u) => hb2.below h hb2.lt)
  have hps := fun u (h : Below W.heap.size W u) => (show ∀ i, i < (scopeCells p ps).size → u.cell? ⟨w.heap.size, i, none⟩ = (scopeCells p ps)[i]? from fun i _ => (hb1.below h hb1.lt).cell i)
  have HSZ : Hid (W.heap.size = w.heap.size + 2) := Lib.hid hsz
  have HB := Below.refl W.heap.size W
  have hm := E.few
  clear hw hsz hb1 hb2
  have H126 := Lib.hid (fun u (h : Below W.heap.size W u) => show Calls Tryz.prog 65 #[.slice x.A x.l.length x.c, .int .i64 i, .string ⟨#[126]⟩] u fun e w' => e = .returned (.bool false) ∧ u = w' from by
    have := rsym_any x (i) ⟨#[126]⟩ u (HE.out.toks.below h (Nat.le_refl _))
    rw [show isSym x.l (⟨#[126]⟩ : ByteArray).data.toList (i) = false by assumption] at this
    exact this)
  have HA := Lib.hid (fun u (h : Below W.heap.size W u) => show Calls Tryz.prog 66 #[.slice x.A x.l.length x.c, .int .i64 i, .agg (scopeCells p ps)] u (RG u (opd i)) from hO u (i) (by omega) (by omega) (HE.out.below h))
  have hba := hB i hi
  have ha1 := hba.n
  have ha2 := hba.ok
  have ha3 := hba.top
  clear hba
  generalize opd i = a at *
  obtain ⟨an, aj, ae⟩ := a
  simp only at hz hlt hgg h91 hop h63 ⊢
  subst hz
  obtain ⟨ha4, ha5⟩ := ha2 rfl
  clear ha2
  have HLT := Lib.hid (fun u (h : Below W.heap.size W u) => show Calls Tryz.prog 65 #[.slice x.A x.l.length x.c, .int .i64 aj, .string ⟨#[60, 60]⟩] u fun e w' => e = .returned (.bool false) ∧ u = w' from by
    have := rsym_any x (aj) ⟨#[60, 60]⟩ u (HE.out.toks.below h (Nat.le_refl _))
    rw [show isSym x.l (⟨#[60, 60]⟩ : ByteArray).data.toList (aj) = false by assumption] at this
    exact this)
  have HGG := Lib.hid (fun u (h : Below W.heap.size W u) => show Calls Tryz.prog 65 #[.slice x.A x.l.length x.c, .int .i64 aj, .string ⟨#[62, 62]⟩] u fun e w' => e = .returned (.bool false) ∧ u = w' from by
    have := rsym_any x (aj) ⟨#[62, 62]⟩ u (HE.out.toks.below h (Nat.le_refl _))
    rw [show isSym x.l (⟨#[62, 62]⟩ : ByteArray).data.toList (aj) = false by assumption] at this
    exact this)
  have H91 := Lib.hid (fun u (h : Below W.heap.size W u) => show Calls Tryz.prog 65 #[.slice x.A x.l.length x.c, .int .i64 aj, .string ⟨#[91]⟩] u fun e w' => e = .returned (.bool false) ∧ u = w' from by
    have := rsym_any x (aj) ⟨#[91]⟩ u (HE.out.toks.below h (Nat.le_refl _))
    rw [show isSym x.l (⟨#[91]⟩ : ByteArray).data.toList (aj) = false by assumption] at this
    exact this)
  have HBI := Lib.hid (fun u (h : Below W.heap.size W u) => rbin_any x aj u (HE.out.toks.below h (Nat.le_refl _)))
  generalize rOper x.l aj = o at *
  have hop' : decide (0 < o) = false := decide_eq_false hop
  have H63 := Lib.hid (fun u (h : Below W.heap.size W u) => show Calls Tryz.prog 65 #[.slice x.A x.l.length x.c, .int .i64 aj, .string ⟨#[63]⟩] u fun e w' => e = .returned (.bool false) ∧ u = w' from by
    have := rsym_any x (aj) ⟨#[63]⟩ u (HE.out.toks.below h (Nat.le_refl _))
    rw [show isSym x.l (⟨#[63]⟩ : ByteArray).data.toList (aj) = false by assumption] at this
    exact this)
  have hp1 := hps W HB
  clear E hO hB
  go_enter Tryz.func30, Tryz.ntmps30
  go_upto_region 1 with fail
  rw [← hW]
  clear hW
  go_wp2_with fail
  refine (H126.out W HB).mono ?_
  rintro r w' ⟨rfl, rfl⟩
  go_wp2_with fail
  refine (HA.out W HB).mono ?_
  rintro r w1 ⟨⟨A, c, rfl, hl, hn, hf⟩, hb1⟩
  have HB1 := Lib.hid hb1
  have HL1 := Lib.hid hl
  have HN := Lib.hid hn
  have HF := Lib.hid hf
  clear hb1 hl hn hf HA hp1
  go_upto_region 5 with fail
  obtain ⟨V, hV⟩ : ∃ V, V = w1.alloc (.cells #[.slice A an.length c, .int .i64 aj, .int .i64 0] 88) := ⟨_, rfl⟩
  have HVB : Hid (Blk V w1.heap.size 88 #[.slice A an.length c, .int .i64 aj, .int .i64 0]) := Lib.hid (by rw [hV]; exact Blk.new _ _ _)
  have HBV : Hid (Below W.heap.size W V) := Lib.hid (by rw [hV]; exact below_alloc HB1.out _)
  have HLV : Hid (LOk V 3 NodeD.cells ⟨an, A, c⟩) := Lib.hid (by rw [hV]; exact HL1.out.below (below1 _ _) (Nat.le_refl _))
  have HFW : Hid (∀ a, A = some a → w.heap.size ≤ a.block ∧ a.block ≠ w.heap.size + 1) := Lib.hid (fun a h => by have := HF.out a h; have := HSZ.out; omega)
  have hne : w.heap.size + 2 ≤ w1.heap.size := by have := HB1.out.size; have := HSZ.out; omega
  rw [← hV]
  clear hV
  have v0 : V.cell? ⟨w1.heap.size, 0, none⟩ = some (.slice A an.length c) := HVB.out.cell 0
  have v1 : V.cell? ⟨w1.heap.size, 1, none⟩ = some (.int .i64 aj) := HVB.out.cell 1
  have v2 : V.cell? ⟨w1.heap.size, 2, none⟩ = some (.int .i64 0) := HVB.out.cell 2
  go_wp2_with fail
  refine (HGG.out V HBV.out).mono ?_
  rintro r w' ⟨rfl, rfl⟩
  go_wp2_with fail
  refine (HLT.out V HBV.out).mono ?_
  rintro r w' ⟨rfl, rfl⟩
  go_wp2_with fail
  refine (HGG.out V HBV.out).mono ?_
  rintro r w' ⟨rfl, rfl⟩
  go_wp2_with fail
  refine (H91.out V HBV.out).mono ?_
  rintro r w' ⟨rfl, rfl⟩
  go_wp2_with fail
  refine (HBI.out V HBV.out).mono ?_
  rintro r w' ⟨rfl, rfl⟩
  go_wp2_with fail
  refine (H63.out V HBV.out).mono ?_
  rintro r w' ⟨rfl, rfl⟩
  have HRU := Lib.hid (HRB.out V HBV.out)
  have r0 : V.cell? ⟨w.heap.size + 1, 0, none⟩ = some (.slice none 0 0) := HRU.out.cell 0
  have r1 : V.cell? ⟨w.heap.size + 1, 1, none⟩ = some (.int .i64 0) := HRU.out.cell 1
  have r2 : V.cell? ⟨w.heap.size + 1, 2, none⟩ = some (.int .i64 0) := HRU.out.cell 2
  have g0 : V.frozen? ⟨w.heap.size + 1, 0, none⟩ = false := HRU.out.frozen 0
  have g1 : V.frozen? ⟨w.heap.size + 1, 1, none⟩ = false := HRU.out.frozen 1
  have g2 : V.frozen? ⟨w.heap.size + 1, 2, none⟩ = false := HRU.out.frozen 2
  go_wp2
  refine bodyPost_ret (v := .agg #[.slice A an.length c, .int .i64 aj, .int .i64 0]) ?_ rfl ?_
  · exact results_cell_row (fn := Tryz.f30) (p := 6) (ty := 88) rfl _ _ (w.heap.size + 1) 88 #[.slice A an.length c, .int .i64 aj, .int .i64 0] (0, 0) _ rfl (rput3 HRU.out _ _ _) Tryz.underlying88 rfl (by kernel_rfl)
  · exact (RG.fin (R := ⟨an, aj, 0⟩) (A := A) (c := c) (Nat.le_succ _) (below_step HW.out HBV.out) HLV.out HN.out HFW.out _ _ _ rfl)
set_option maxRecDepth 100000 in
set_option maxHeartbeats 8000000 in
theorem rexShlBad {x : L Tk} {p : ProgD} {ps : L FieldD} {i : Nat} {w : World} {opd : Nat → Pd} {R : Pd} (E : REnv w x p ps) (hO : ROpdOk x p ps opd i) (hB : ∀ j, j ≤ x.l.length → RBd x.l j (opd j)) (hi : i ≤ x.l.length) (h126 : isSym x.l [126] i = false) (hz : (opd i).e = 0) (hlt : isSym x.l [60, 60] (opd i).at_ = true) (hgg : isSym x.l [62, 62] (opd i).at_ = false) (hx : expR x.l ((opd i).at_ + 1) 2 [] ≠ 0) (hR : R = ⟨[], 0, expR x.l ((opd i).at_ + 1) 2 []⟩) :
    Calls Tryz.prog 30 #[.slice x.A x.l.length x.c, .int .i64 i, .agg (scopeCells p ps)] w (RG w R) := by
  subst hR
  obtain ⟨W, hW, hw, hsz, hb1, hb2⟩ := boxR w (scopeCells p ps) 44 #[.slice none 0 0, .int .i64 0, .int .i64 0] 88
  have HW := Lib.hid hw
  have HE := Lib.hid (E.below hw)
  have HRB := Lib.hid (fun u (h : Below W.heap.size W u) => hb2.below h hb2.lt)
  have hps := fun u (h : Below W.heap.size W u) => (show ∀ i, i < (scopeCells p ps).size → u.cell? ⟨w.heap.size, i, none⟩ = (scopeCells p ps)[i]? from fun i _ => (hb1.below h hb1.lt).cell i)
  have HSZ : Hid (W.heap.size = w.heap.size + 2) := Lib.hid hsz
  have HB := Below.refl W.heap.size W
  have hm := E.few
  clear hw hsz hb1 hb2
  have H126 := Lib.hid (fun u (h : Below W.heap.size W u) => show Calls Tryz.prog 65 #[.slice x.A x.l.length x.c, .int .i64 i, .string ⟨#[126]⟩] u fun e w' => e = .returned (.bool false) ∧ u = w' from by
    have := rsym_any x (i) ⟨#[126]⟩ u (HE.out.toks.below h (Nat.le_refl _))
    rw [show isSym x.l (⟨#[126]⟩ : ByteArray).data.toList (i) = false by assumption] at this
    exact this)
  have HA := Lib.hid (fun u (h : Below W.heap.size W u) => show Calls Tryz.prog 66 #[.slice x.A x.l.length x.c, .int .i64 i, .agg (scopeCells p ps)] u (RG u (opd i)) from hO u (i) (by omega) (by omega) (HE.out.below h))
  have hba := hB i hi
  have ha1 := hba.n
  have ha2 := hba.ok
  have ha3 := hba.top
  clear hba
  generalize opd i = a at *
  obtain ⟨an, aj, ae⟩ := a
  simp only at hz hlt hgg hx ⊢
  subst hz
  obtain ⟨ha4, ha5⟩ := ha2 rfl
  clear ha2
  have HLT := Lib.hid (fun u (h : Below W.heap.size W u) => show Calls Tryz.prog 65 #[.slice x.A x.l.length x.c, .int .i64 aj, .string ⟨#[60, 60]⟩] u fun e w' => e = .returned (.bool true) ∧ u = w' from by
    have := rsym_any x (aj) ⟨#[60, 60]⟩ u (HE.out.toks.below h (Nat.le_refl _))
    rw [show isSym x.l (⟨#[60, 60]⟩ : ByteArray).data.toList (aj) = true by assumption] at this
    exact this)
  have HGG := Lib.hid (fun u (h : Below W.heap.size W u) => show Calls Tryz.prog 65 #[.slice x.A x.l.length x.c, .int .i64 aj, .string ⟨#[62, 62]⟩] u fun e w' => e = .returned (.bool false) ∧ u = w' from by
    have := rsym_any x (aj) ⟨#[62, 62]⟩ u (HE.out.toks.below h (Nat.le_refl _))
    rw [show isSym x.l (⟨#[62, 62]⟩ : ByteArray).data.toList (aj) = false by assumption] at this
    exact this)
  have HEX := Lib.hid (fun u (h : Below W.heap.size W u) => show Calls Tryz.prog 68 #[.slice x.A x.l.length x.c, .int .i64 ((aj : Int) + 1), .int .i64 2, .string ⟨#[]⟩] u fun e w' => e = .returned (.int .i64 (expR x.l (aj + 1) 2 [])) ∧ u = w' from rexp_any x (aj + 1) 2 ⟨#[]⟩ u (HE.out.toks.below h (Nat.le_refl _)))
  generalize expR x.l (aj + 1) 2 [] = ex at *
  have hx' : (ex != 0) = true := bne_iff_ne.2 hx
  have hp1 := hps W HB
  clear E hO hB
  go_enter Tryz.func30, Tryz.ntmps30
  go_upto_region 1 with fail
  rw [← hW]
  clear hW
  go_wp2_with fail
  refine (H126.out W HB).mono ?_
  rintro r w' ⟨rfl, rfl⟩
  go_wp2_with fail
  refine (HA.out W HB).mono ?_
  rintro r w1 ⟨⟨A, c, rfl, hl, hn, hf⟩, hb1⟩
  have HB1 := Lib.hid hb1
  have HL1 := Lib.hid hl
  have HN := Lib.hid hn
  have HF := Lib.hid hf
  clear hb1 hl hn hf HA hp1
  go_upto_region 5 with fail
  obtain ⟨V, hV⟩ : ∃ V, V = w1.alloc (.cells #[.slice A an.length c, .int .i64 aj, .int .i64 0] 88) := ⟨_, rfl⟩
  have HVB : Hid (Blk V w1.heap.size 88 #[.slice A an.length c, .int .i64 aj, .int .i64 0]) := Lib.hid (by rw [hV]; exact Blk.new _ _ _)
  have HBV : Hid (Below W.heap.size W V) := Lib.hid (by rw [hV]; exact below_alloc HB1.out _)
  have HLV : Hid (LOk V 3 NodeD.cells ⟨an, A, c⟩) := Lib.hid (by rw [hV]; exact HL1.out.below (below1 _ _) (Nat.le_refl _))
  have HFW : Hid (∀ a, A = some a → w.heap.size ≤ a.block ∧ a.block ≠ w.heap.size + 1) := Lib.hid (fun a h => by have := HF.out a h; have := HSZ.out; omega)
  have hne : w.heap.size + 2 ≤ w1.heap.size := by have := HB1.out.size; have := HSZ.out; omega
  rw [← hV]
  clear hV
  have v0 : V.cell? ⟨w1.heap.size, 0, none⟩ = some (.slice A an.length c) := HVB.out.cell 0
  have v1 : V.cell? ⟨w1.heap.size, 1, none⟩ = some (.int .i64 aj) := HVB.out.cell 1
  have v2 : V.cell? ⟨w1.heap.size, 2, none⟩ = some (.int .i64 0) := HVB.out.cell 2
  go_wp2_with fail
  refine (HGG.out V HBV.out).mono ?_
  rintro r w' ⟨rfl, rfl⟩
  go_wp2_with fail
  refine (HLT.out V HBV.out).mono ?_
  rintro r w' ⟨rfl, rfl⟩
  go_wp2_with fail
  refine (HEX.out V HBV.out).mono ?_
  rintro r w' ⟨rfl, rfl⟩
  have HRU := Lib.hid (HRB.out V HBV.out)
  have r0 : V.cell? ⟨w.heap.size + 1, 0, none⟩ = some (.slice none 0 0) := HRU.out.cell 0
  have r1 : V.cell? ⟨w.heap.size + 1, 1, none⟩ = some (.int .i64 0) := HRU.out.cell 1
  have r2 : V.cell? ⟨w.heap.size + 1, 2, none⟩ = some (.int .i64 0) := HRU.out.cell 2
  have g0 : V.frozen? ⟨w.heap.size + 1, 0, none⟩ = false := HRU.out.frozen 0
  have g1 : V.frozen? ⟨w.heap.size + 1, 1, none⟩ = false := HRU.out.frozen 1
  have g2 : V.frozen? ⟨w.heap.size + 1, 2, none⟩ = false := HRU.out.frozen 2
  go_wp2
  refine bodyPost_ret (v := .agg #[.slice none 0 0, .int .i64 0, .int .i64 ex]) ?_ rfl ?_
  · exact results_cell_row (fn := Tryz.f30) (p := 6) (ty := 88) rfl _ _ (w.heap.size + 1) 88 #[.slice none 0 0, .int .i64 0, .int .i64 ex] (0, 0) _ rfl (rput3 HRU.out _ _ _) Tryz.underlying88 rfl (by kernel_rfl)
  · exact (RG.fin (R := ⟨[], 0, ex⟩) (A := none) (c := 0) (Nat.le_succ _) (below_step HW.out HBV.out) ⟨Nat.zero_le _, .inl rfl⟩ (fun _ => rfl) (fun a h => by cases h) _ _ _ rfl)
set_option maxRecDepth 100000 in
set_option maxHeartbeats 8000000 in
theorem rexShlOk {x : L Tk} {p : ProgD} {ps : L FieldD} {i : Nat} {w : World} {opd : Nat → Pd} {R : Pd} (E : REnv w x p ps) (hO : ROpdOk x p ps opd i) (hB : ∀ j, j ≤ x.l.length → RBd x.l j (opd j)) (hi : i ≤ x.l.length) (h126 : isSym x.l [126] i = false) (hz : (opd i).e = 0) (hlt : isSym x.l [60, 60] (opd i).at_ = true) (hgg : isSym x.l [62, 62] (opd i).at_ = false) (hx : expR x.l ((opd i).at_ + 1) 2 [] = 0) (hR : R = rPre ⟨6, (tkAt x.l ((opd i).at_ + 1)).value, 0⟩ (opd i) ⟨[], (opd i).at_ + 2, 0⟩) :
    Calls Tryz.prog 30 #[.slice x.A x.l.length x.c, .int .i64 i, .agg (scopeCells p ps)] w (RG w R) := by
  obtain ⟨W, hW, hw, hsz, hb1, hb2⟩ := boxR w (scopeCells p ps) 44 #[.slice none 0 0, .int .i64 0, .int .i64 0] 88
  have HW := Lib.hid hw
  have HE := Lib.hid (E.below hw)
  have HRB := Lib.hid (fun u (h : Below W.heap.size W u) => hb2.below h hb2.lt)
  have hps := fun u (h : Below W.heap.size W u) => (show ∀ i, i < (scopeCells p ps).size → u.cell? ⟨w.heap.size, i, none⟩ = (scopeCells p ps)[i]? from fun i _ => (hb1.below h hb1.lt).cell i)
  have HSZ : Hid (W.heap.size = w.heap.size + 2) := Lib.hid hsz
  have HB := Below.refl W.heap.size W
  have hm := E.few
  clear hw hsz hb1 hb2
  have H126 := Lib.hid (fun u (h : Below W.heap.size W u) => show Calls Tryz.prog 65 #[.slice x.A x.l.length x.c, .int .i64 i, .string ⟨#[126]⟩] u fun e w' => e = .returned (.bool false) ∧ u = w' from by
    have := rsym_any x (i) ⟨#[126]⟩ u (HE.out.toks.below h (Nat.le_refl _))
    rw [show isSym x.l (⟨#[126]⟩ : ByteArray).data.toList (i) = false by assumption] at this
    exact this)
  have HA := Lib.hid (fun u (h : Below W.heap.size W u) => show Calls Tryz.prog 66 #[.slice x.A x.l.length x.c, .int .i64 i, .agg (scopeCells p ps)] u (RG u (opd i)) from hO u (i) (by omega) (by omega) (HE.out.below h))
  have hba := hB i hi
  have ha1 := hba.n
  have ha2 := hba.ok
  have ha3 := hba.top
  clear hba
  generalize opd i = a at *
  obtain ⟨an, aj, ae⟩ := a
  simp only at hz hlt hgg hx hR ⊢
  subst hz
  obtain ⟨ha4, ha5⟩ := ha2 rfl
  clear ha2
  have HLT := Lib.hid (fun u (h : Below W.heap.size W u) => show Calls Tryz.prog 65 #[.slice x.A x.l.length x.c, .int .i64 aj, .string ⟨#[60, 60]⟩] u fun e w' => e = .returned (.bool true) ∧ u = w' from by
    have := rsym_any x (aj) ⟨#[60, 60]⟩ u (HE.out.toks.below h (Nat.le_refl _))
    rw [show isSym x.l (⟨#[60, 60]⟩ : ByteArray).data.toList (aj) = true by assumption] at this
    exact this)
  have HGG := Lib.hid (fun u (h : Below W.heap.size W u) => show Calls Tryz.prog 65 #[.slice x.A x.l.length x.c, .int .i64 aj, .string ⟨#[62, 62]⟩] u fun e w' => e = .returned (.bool false) ∧ u = w' from by
    have := rsym_any x (aj) ⟨#[62, 62]⟩ u (HE.out.toks.below h (Nat.le_refl _))
    rw [show isSym x.l (⟨#[62, 62]⟩ : ByteArray).data.toList (aj) = false by assumption] at this
    exact this)
  have HEX := Lib.hid (fun u (h : Below W.heap.size W u) => show Calls Tryz.prog 68 #[.slice x.A x.l.length x.c, .int .i64 ((aj : Int) + 1), .int .i64 2, .string ⟨#[]⟩] u fun e w' => e = .returned (.int .i64 (expR x.l (aj + 1) 2 [])) ∧ u = w' from rexp_any x (aj + 1) 2 ⟨#[]⟩ u (HE.out.toks.below h (Nat.le_refl _)))
  rw [hx] at HEX
  have hj1 : aj + 1 < x.l.length := exp_lt hx
  rw [tk_of hj1] at hR
  obtain ⟨g, of, hA, hq⟩ := TkD.atA HE.out.toks hj1
  have hgl := TkD.blk E.toks hj1 hA
  have hv1 := (E.ok _ (List.getElem_mem hj1)).value
  have HQ := Lib.hid hq
  have HAA := Lib.hid hA
  generalize x.l[aj + 1].value = v at *
  have hw1 : IntKind.i64.wrap (v : Int) = (v : Int) := IntWalk.i64_in _ (by omega)
  have hii : (aj : Int) + 1 < (x.l.length : Int) := by omega
  have hii0 : 0 ≤ (aj : Int) + 1 := by omega
  have htn : ((aj : Int) + 1).toNat = aj + 1 := by omega
  have hwr : IntKind.i64.wrap ((aj : Int) + 1) = (aj : Int) + 1 := IntWalk.i64_in _ (by omega)
  have hwr2 : IntKind.i64.wrap ((aj : Int) + 2) = (aj : Int) + 2 := IntWalk.i64_in _ (by omega)
  clear hq hA
  obtain ⟨rn, rj, re⟩ := R
  have hp1 := hps W HB
  clear E hO hB
  go_enter Tryz.func30, Tryz.ntmps30
  go_upto_region 1 with fail
  rw [← hW]
  clear hW
  go_wp2_with fail
  refine (H126.out W HB).mono ?_
  rintro r w' ⟨rfl, rfl⟩
  go_wp2_with fail
  refine (HA.out W HB).mono ?_
  rintro r w1 ⟨⟨A, c, rfl, hl, hn, hf⟩, hb1⟩
  have HB1 := Lib.hid hb1
  have HL1 := Lib.hid hl
  have HN := Lib.hid hn
  have HF := Lib.hid hf
  clear hb1 hl hn hf HA hp1
  go_upto_region 5 with fail
  obtain ⟨V, hV⟩ : ∃ V, V = w1.alloc (.cells #[.slice A an.length c, .int .i64 aj, .int .i64 0] 88) := ⟨_, rfl⟩
  have HVB : Hid (Blk V w1.heap.size 88 #[.slice A an.length c, .int .i64 aj, .int .i64 0]) := Lib.hid (by rw [hV]; exact Blk.new _ _ _)
  have HBV : Hid (Below W.heap.size W V) := Lib.hid (by rw [hV]; exact below_alloc HB1.out _)
  have HLV : Hid (LOk V 3 NodeD.cells ⟨an, A, c⟩) := Lib.hid (by rw [hV]; exact HL1.out.below (below1 _ _) (Nat.le_refl _))
  have HFW : Hid (∀ a, A = some a → w.heap.size ≤ a.block ∧ a.block ≠ w.heap.size + 1) := Lib.hid (fun a h => by have := HF.out a h; have := HSZ.out; omega)
  have hne : w.heap.size + 2 ≤ w1.heap.size := by have := HB1.out.size; have := HSZ.out; omega
  rw [← hV]
  clear hV
  have v0 : V.cell? ⟨w1.heap.size, 0, none⟩ = some (.slice A an.length c) := HVB.out.cell 0
  have v1 : V.cell? ⟨w1.heap.size, 1, none⟩ = some (.int .i64 aj) := HVB.out.cell 1
  have v2 : V.cell? ⟨w1.heap.size, 2, none⟩ = some (.int .i64 0) := HVB.out.cell 2
  go_wp2_with fail
  refine (HGG.out V HBV.out).mono ?_
  rintro r w' ⟨rfl, rfl⟩
  go_wp2_with fail
  refine (HLT.out V HBV.out).mono ?_
  rintro r w' ⟨rfl, rfl⟩
  go_wp2_with fail
  refine (HEX.out V HBV.out).mono ?_
  rintro r w' ⟨rfl, rfl⟩
  have HPX := Lib.hid (fun u (h : Below V.heap.size V u) => show Calls Tryz.prog 67 #[.agg #[.int .i64 6, .int .i64 v, .int .i64 0], .agg #[.slice A an.length c, .int .i64 aj, .int .i64 0], .agg #[.slice none 0 0, .int .i64 ((aj : Int) + 2), .int .i64 0]] u (RG u ⟨rn, rj, re⟩) from by
    rw [hR]; exact rprefix_any ⟨6, v, 0⟩ ⟨an, aj, 0⟩ ⟨[], aj + 2, 0⟩ A none c 0 u (HLV.out.below h (Nat.le_refl _)) HN.out ⟨Nat.zero_le _, .inl rfl⟩ (fun _ => rfl) (by simp only [List.length_nil]; omega))
  clear hR
  have HS := Lib.hid (fun u (h : Below V.heap.size V u) => show (fun w' => w'.cell? ⟨w1.heap.size, 0, none⟩ = some (.slice A an.length c) ∧ w'.cell? ⟨w1.heap.size, 1, none⟩ = some (.int .i64 aj) ∧ w'.cell? ⟨w1.heap.size, 2, none⟩ = some (.int .i64 0) ∧ w'.cell? ⟨g, of + (aj + 1) * 4 + 2, none⟩ = some (.int .u32 v)) u from ⟨(HVB.out.below h HVB.out.lt).cell 0, (HVB.out.below h HVB.out.lt).cell 1, (HVB.out.below h HVB.out.lt).cell 2, (HQ.out u (below_step HBV.out h)).2.2.1⟩)
  have HS2 := Lib.hid (fun u (h : Below V.heap.size V u) (x y z : Value) => show (fun w' => w'.cell? ⟨w1.heap.size, 0, none⟩ = some (.slice A an.length c) ∧ w'.cell? ⟨w1.heap.size, 1, none⟩ = some (.int .i64 aj) ∧ w'.cell? ⟨w1.heap.size, 2, none⟩ = some (.int .i64 0) ∧ w'.cell? ⟨g, of + (aj + 1) * 4 + 2, none⟩ = some (.int .u32 v)) (((u.setCell ⟨w.heap.size + 1, 0, none⟩ x).setCell ⟨w.heap.size + 1, 1, none⟩ y).setCell ⟨w.heap.size + 1, 2, none⟩ z) from ⟨(cell_put3 (by omega) x y z).trans ((HVB.out.below h HVB.out.lt).cell 0), (cell_put3 (by omega) x y z).trans ((HVB.out.below h HVB.out.lt).cell 1), (cell_put3 (by omega) x y z).trans ((HVB.out.below h HVB.out.lt).cell 2), (cell_put3 (by omega) x y z).trans ((HQ.out u (below_step HBV.out h)).2.2.1)⟩)
  have H0V := Lib.hid (Below.refl V.heap.size V)
  have HLE : Hid (V.heap.size ≤ V.drew.heap.size) := Lib.hid (Nat.le_refl _)
  clear hps v0 v1 v2
  go_upto_region 14 with fail
  simp only [HAA.out]
  refine wp_region_held_drew (S := (fun w' => w'.cell? ⟨w1.heap.size, 0, none⟩ = some (.slice A an.length c) ∧ w'.cell? ⟨w1.heap.size, 1, none⟩ = some (.int .i64 aj) ∧ w'.cell? ⟨w1.heap.size, 2, none⟩ = some (.int .i64 0) ∧ w'.cell? ⟨g, of + (aj + 1) * 4 + 2, none⟩ = some (.int .u32 v))) (by kernel_rfl) (HS.out _ (below_drew H0V.out)) (fun hHeld => ?_)
  refine wpAnyH_take (i := 0) (oi := { dst := some 58, op := Op.move (Operand.tmp 9), type := 3, pos := "ref.go:293", after := #[], guard := none }) (v := ?s6v0) rfl (by kernel_rfl) (by kernel_rfl) (by kernel_rfl) (fun _ _ _ h => h) (Or.inl ⟨by rfl, ?s6y0⟩) (by assumption) ?s6r0
  case s6y0 => (intro w hSw; (try dsimp only at hSw); go_simp; try (with_reducible rfl))
  try simp only [Act.put, List.setIfInBounds_toArray, List.set_cons_zero, List.set_cons_succ]
  refine wpAnyH_take (i := 1) (oi := { dst := some 59, op := Op.move (Operand.tmp 0), type := 56, pos := "ref.go:293", after := #[], guard := none }) (v := ?s6v1) rfl (by kernel_rfl) (by kernel_rfl) (by kernel_rfl) (fun _ _ _ h => h) (Or.inl ⟨by rfl, ?s6y1⟩) (by assumption) ?s6r1
  case s6y1 => (intro w hSw; (try dsimp only at hSw); go_simp; try (with_reducible rfl))
  try simp only [Act.put, List.setIfInBounds_toArray, List.set_cons_zero, List.set_cons_succ]
  refine wpAnyH_take (i := 2) (oi := { dst := some 60, op := Op.fieldAddr 88 (Operand.tmp 8) 1, type := 0, pos := "ref.go:293", after := #[], guard := none }) (v := ?s6v2) rfl (by kernel_rfl) (by kernel_rfl) (by kernel_rfl) (fun _ _ _ h => h) (Or.inl ⟨by rfl, ?s6y2⟩) (by assumption) ?s6r2
  case s6y2 => (intro w hSw; (try dsimp only at hSw); go_simp; try (with_reducible rfl))
  try simp only [Act.put, List.setIfInBounds_toArray, List.set_cons_zero, List.set_cons_succ]
  refine wpAnyH_take (i := 3) (oi := { dst := some 61, op := Op.load 3 (Operand.tmp 60), type := 3, pos := "ref.go:293", after := #[{ on := 2, ground := Ground.data }], guard := none }) (v := ?s6v3) rfl (by kernel_rfl) (by kernel_rfl) (by kernel_rfl) (fun _ _ _ h => h) (Or.inl ⟨by rfl, ?s6y3⟩) (by assumption) ?s6r3
  case s6y3 => (intro w hSw; (try dsimp only at hSw); go_simp; try (with_reducible rfl))
  try simp only [Act.put, List.setIfInBounds_toArray, List.set_cons_zero, List.set_cons_succ]
  refine wpAnyH_take (i := 4) (oi := { dst := some 62, op := Op.binOp BinOp.add 3 (Operand.tmp 61) (Operand.const (Value.int IntKind.i64 1)) 3, type := 3, pos := "ref.go:293", after := #[{ on := 3, ground := Ground.data }], guard := none }) (v := ?s6v4) rfl (by kernel_rfl) (by kernel_rfl) (by kernel_rfl) (fun _ _ _ h => h) (Or.inl ⟨by rfl, ?s6y4⟩) (by assumption) ?s6r4
  case s6y4 => (intro w hSw; (try dsimp only at hSw); go_simp; try (with_reducible rfl))
  try simp only [Act.put, List.setIfInBounds_toArray, List.set_cons_zero, List.set_cons_succ]
  refine wpAnyH_take (i := 5) (oi := { dst := some 63, op := Op.indexAddr 56 (Operand.tmp 59) (Operand.tmp 62), type := 0, pos := "ref.go:293", after := #[{ on := 1, ground := Ground.data }, { on := 4, ground := Ground.data }], guard := none }) (v := ?s6v5) rfl (by kernel_rfl) (by kernel_rfl) (by kernel_rfl) (fun _ _ _ h => h) (Or.inl ⟨by rfl, ?s6y5⟩) (by assumption) ?s6r5
  case s6y5 => (intro w hSw; (try dsimp only at hSw); go_simp; try (with_reducible rfl))
  try simp only [Act.put, List.setIfInBounds_toArray, List.set_cons_zero, List.set_cons_succ]
  refine wpAnyH_take (i := 6) (oi := { dst := some 64, op := Op.fieldAddr 90 (Operand.tmp 63) 2, type := 0, pos := "ref.go:293", after := #[{ on := 5, ground := Ground.data }], guard := none }) (v := ?s6v6) rfl (by kernel_rfl) (by kernel_rfl) (by kernel_rfl) (fun _ _ _ h => h) (Or.inl ⟨by rfl, ?s6y6⟩) (by assumption) ?s6r6
  case s6y6 => (intro w hSw; (try dsimp only at hSw); go_simp; try (with_reducible rfl))
  try simp only [Act.put, List.setIfInBounds_toArray, List.set_cons_zero, List.set_cons_succ]
  refine wpAnyH_take (i := 7) (oi := { dst := some 65, op := Op.load 79 (Operand.tmp 64), type := 79, pos := "ref.go:293", after := #[{ on := 6, ground := Ground.data }], guard := none }) (v := ?s6v7) rfl (by kernel_rfl) (by kernel_rfl) (by kernel_rfl) (fun _ _ _ h => h) (Or.inl ⟨by rfl, ?s6y7⟩) (by assumption) ?s6r7
  case s6y7 => (intro w hSw; (try dsimp only at hSw); go_simp; try (with_reducible rfl))
  try simp only [Act.put, List.setIfInBounds_toArray, List.set_cons_zero, List.set_cons_succ]
  refine wpAnyH_take (i := 8) (oi := { dst := some 66, op := Op.convert 79 3 (Operand.tmp 65), type := 3, pos := "ref.go:293", after := #[{ on := 7, ground := Ground.data }], guard := none }) (v := ?s6v8) rfl (by kernel_rfl) (by kernel_rfl) (by kernel_rfl) (fun _ _ _ h => h) (Or.inl ⟨by rfl, ?s6y8⟩) (by assumption) ?s6r8
  case s6y8 => (intro w hSw; (try dsimp only at hSw); go_simp; try (with_reducible rfl))
  try simp only [Act.put, List.setIfInBounds_toArray, List.set_cons_zero, List.set_cons_succ]
  refine wpAnyH_take (i := 9) (oi := { dst := some 67, op := Op.build 65 #[(0, Operand.tmp 58), (1, Operand.tmp 66)], type := 65, pos := "ref.go:293", after := #[{ on := 0, ground := Ground.data }, { on := 8, ground := Ground.data }], guard := none }) (v := ?s6v9) rfl (by kernel_rfl) (by kernel_rfl) (by kernel_rfl) (fun _ _ _ h => h) (Or.inl ⟨by rfl, ?s6y9⟩) (by assumption) ?s6r9
  case s6y9 => (intro w hSw; (try dsimp only at hSw); go_simp; try (with_reducible rfl))
  try simp only [Act.put, List.setIfInBounds_toArray, List.set_cons_zero, List.set_cons_succ]
  refine wpAnyH_take (i := 10) (oi := { dst := some 68, op := Op.load 88 (Operand.tmp 8), type := 88, pos := "ref.go:293", after := #[], guard := none }) (v := ?s6v10) rfl (by kernel_rfl) (by kernel_rfl) (by kernel_rfl) (fun _ _ _ h => h) (Or.inl ⟨by rfl, ?s6y10⟩) (by assumption) ?s6r10
  case s6y10 => (intro w hSw; (try dsimp only at hSw); go_simp; try (with_reducible rfl))
  try simp only [Act.put, List.setIfInBounds_toArray, List.set_cons_zero, List.set_cons_succ]
  refine wpAnyH_take (i := 11) (oi := { dst := some 69, op := Op.fieldAddr 88 (Operand.tmp 8) 1, type := 0, pos := "ref.go:293", after := #[], guard := none }) (v := ?s6v11) rfl (by kernel_rfl) (by kernel_rfl) (by kernel_rfl) (fun _ _ _ h => h) (Or.inl ⟨by rfl, ?s6y11⟩) (by assumption) ?s6r11
  case s6y11 => (intro w hSw; (try dsimp only at hSw); go_simp; try (with_reducible rfl))
  try simp only [Act.put, List.setIfInBounds_toArray, List.set_cons_zero, List.set_cons_succ]
  refine wpAnyH_take (i := 12) (oi := { dst := some 70, op := Op.load 3 (Operand.tmp 69), type := 3, pos := "ref.go:293", after := #[{ on := 11, ground := Ground.data }], guard := none }) (v := ?s6v12) rfl (by kernel_rfl) (by kernel_rfl) (by kernel_rfl) (fun _ _ _ h => h) (Or.inl ⟨by rfl, ?s6y12⟩) (by assumption) ?s6r12
  case s6y12 => (intro w hSw; (try dsimp only at hSw); go_simp; try (with_reducible rfl))
  try simp only [Act.put, List.setIfInBounds_toArray, List.set_cons_zero, List.set_cons_succ]
  refine wpAnyH_take (i := 13) (oi := { dst := some 71, op := Op.binOp BinOp.add 3 (Operand.tmp 70) (Operand.const (Value.int IntKind.i64 2)) 3, type := 3, pos := "ref.go:293", after := #[{ on := 12, ground := Ground.data }], guard := none }) (v := ?s6v13) rfl (by kernel_rfl) (by kernel_rfl) (by kernel_rfl) (fun _ _ _ h => h) (Or.inl ⟨by rfl, ?s6y13⟩) (by assumption) ?s6r13
  case s6y13 => (intro w hSw; (try dsimp only at hSw); go_simp; try (with_reducible rfl))
  try simp only [Act.put, List.setIfInBounds_toArray, List.set_cons_zero, List.set_cons_succ]
  refine wpAnyH_take (i := 14) (oi := { dst := some 72, op := Op.build 88 #[(1, Operand.tmp 71)], type := 88, pos := "ref.go:293", after := #[{ on := 13, ground := Ground.data }], guard := none }) (v := ?s6v14) rfl (by kernel_rfl) (by kernel_rfl) (by kernel_rfl) (fun _ _ _ h => h) (Or.inl ⟨by rfl, ?s6y14⟩) (by assumption) ?s6r14
  case s6y14 => (intro w hSw; (try dsimp only at hSw); go_simp; try (with_reducible rfl))
  try simp only [Act.put, List.setIfInBounds_toArray, List.set_cons_zero, List.set_cons_succ]
  refine wpAnyH_ready (rs := [15]) (by kernel_rfl) (by simp) ?_
  refine AllReadyH.cons (o := { dst := some 73, op := Op.call { callee := Callee.value (Operand.func 67), args := #[Operand.tmp 67, Operand.tmp 68, Operand.tmp 72], argTypes := #[65, 88, 88] }, type := 88, pos := "ref.go:293", after := #[{ on := 9, ground := Ground.data }, { on := 10, ground := Ground.data }, { on := 14, ground := Ground.data }], guard := none }) rfl (fun K hK => ?_) AllReadyH.nil
  go_simp
  go_at_call 67
  refine (HPX.out _ (below_drew H0V.out)).mono ?_
  rintro r w5 ⟨⟨A5, c5, rfl, hl5, hn5, hf5⟩, hb5⟩
  have HB5 : Hid (Below V.heap.size V w5) := Lib.hid (below_step (below_drew H0V.out) hb5)
  have HL5 := Lib.hid hl5
  have HN5 := Lib.hid hn5
  have HF5 := Lib.hid hf5
  have hNEW := HS.out w5 HB5.out
  refine hK.out _ _ hNEW (fun hHeld5 => ?_)
  clear hK K hl5 hn5 hf5 hb5 hNEW
  refine wpAnyH_ready (rs := [16]) (by kernel_rfl) (by simp) ?_
  refine AllReadyH.cons (o := { dst := none, op := Op.store 88 (Operand.tmp 6) (Operand.tmp 73), type := 0, pos := "ref.go:293", after := #[{ on := 15, ground := Ground.data }, { on := 15, ground := Ground.chain }, { on := 0, ground := Ground.phase }, { on := 1, ground := Ground.phase }, { on := 2, ground := Ground.phase }, { on := 3, ground := Ground.phase }, { on := 4, ground := Ground.phase }, { on := 5, ground := Ground.phase }, { on := 6, ground := Ground.phase }, { on := 7, ground := Ground.phase }, { on := 8, ground := Ground.phase }, { on := 9, ground := Ground.phase }, { on := 10, ground := Ground.phase }, { on := 11, ground := Ground.phase }, { on := 12, ground := Ground.phase }, { on := 13, ground := Ground.phase }, { on := 14, ground := Ground.phase }, { on := 15, ground := Ground.phase }], guard := none }) rfl (fun K hK => ?_) AllReadyH.nil
  have HRU := Lib.hid (HRB.out w5 (below_step HBV.out HB5.out))
  have r0 : w5.cell? ⟨w.heap.size + 1, 0, none⟩ = some (.slice none 0 0) := HRU.out.cell 0
  have r1 : w5.cell? ⟨w.heap.size + 1, 1, none⟩ = some (.int .i64 0) := HRU.out.cell 1
  have r2 : w5.cell? ⟨w.heap.size + 1, 2, none⟩ = some (.int .i64 0) := HRU.out.cell 2
  have g0 : w5.frozen? ⟨w.heap.size + 1, 0, none⟩ = false := HRU.out.frozen 0
  have g1 : w5.frozen? ⟨w.heap.size + 1, 1, none⟩ = false := HRU.out.frozen 1
  have g2 : w5.frozen? ⟨w.heap.size + 1, 2, none⟩ = false := HRU.out.frozen 2
  go_simp
  have hNEW := HS2.out w5 HB5.out (.slice A5 rn.length c5) (.int .i64 rj) (.int .i64 re)
  refine hK.out _ _ hNEW (fun hHeld9 => ?_)
  clear hK K hNEW hHeld9 r0 r1 r2 g0 g1 g2
  refine wpAnyH_done (by kernel_rfl) ?_ _
  have HFAR : Hid (w.heap.size ≤ V.heap.size ∧ w.heap.size + 1 < V.heap.size) := Lib.hid (by have := HBV.out.size; have := HSZ.out; omega)
  go_wp2
  refine bodyPost_ret (v := .agg #[.slice A5 rn.length c5, .int .i64 rj, .int .i64 re]) ?_ rfl ?_
  · exact results_cell_row (fn := Tryz.f30) (p := 6) (ty := 88) rfl _ _ (w.heap.size + 1) 88 #[.slice A5 rn.length c5, .int .i64 rj, .int .i64 re] (0, 0) _ rfl (rput3 HRU.out _ _ _) Tryz.underlying88 rfl (by kernel_rfl)
  · exact RG.put (R := ⟨rn, rj, re⟩) (A := A5) (c := c5) (W := V) (Nat.le_succ _) (below_step HW.out (below_step HBV.out HB5.out)) HL5.out HN5.out (fun a h => Nat.le_trans HLE.out (HF5.out a h)) HFAR.out _ _ _ rfl
set_option maxRecDepth 100000 in
set_option maxHeartbeats 8000000 in
theorem rexShrBad {x : L Tk} {p : ProgD} {ps : L FieldD} {i : Nat} {w : World} {opd : Nat → Pd} {R : Pd} (E : REnv w x p ps) (hO : ROpdOk x p ps opd i) (hB : ∀ j, j ≤ x.l.length → RBd x.l j (opd j)) (hi : i ≤ x.l.length) (h126 : isSym x.l [126] i = false) (hz : (opd i).e = 0) (hlt : isSym x.l [60, 60] (opd i).at_ = false) (hgg : isSym x.l [62, 62] (opd i).at_ = true) (hx : expR x.l ((opd i).at_ + 1) 2 [] ≠ 0) (hR : R = ⟨[], 0, expR x.l ((opd i).at_ + 1) 2 []⟩) :
    Calls Tryz.prog 30 #[.slice x.A x.l.length x.c, .int .i64 i, .agg (scopeCells p ps)] w (RG w R) := by
  subst hR
  obtain ⟨W, hW, hw, hsz, hb1, hb2⟩ := boxR w (scopeCells p ps) 44 #[.slice none 0 0, .int .i64 0, .int .i64 0] 88
  have HW := Lib.hid hw
  have HE := Lib.hid (E.below hw)
  have HRB := Lib.hid (fun u (h : Below W.heap.size W u) => hb2.below h hb2.lt)
  have hps := fun u (h : Below W.heap.size W u) => (show ∀ i, i < (scopeCells p ps).size → u.cell? ⟨w.heap.size, i, none⟩ = (scopeCells p ps)[i]? from fun i _ => (hb1.below h hb1.lt).cell i)
  have HSZ : Hid (W.heap.size = w.heap.size + 2) := Lib.hid hsz
  have HB := Below.refl W.heap.size W
  have hm := E.few
  clear hw hsz hb1 hb2
  have H126 := Lib.hid (fun u (h : Below W.heap.size W u) => show Calls Tryz.prog 65 #[.slice x.A x.l.length x.c, .int .i64 i, .string ⟨#[126]⟩] u fun e w' => e = .returned (.bool false) ∧ u = w' from by
    have := rsym_any x (i) ⟨#[126]⟩ u (HE.out.toks.below h (Nat.le_refl _))
    rw [show isSym x.l (⟨#[126]⟩ : ByteArray).data.toList (i) = false by assumption] at this
    exact this)
  have HA := Lib.hid (fun u (h : Below W.heap.size W u) => show Calls Tryz.prog 66 #[.slice x.A x.l.length x.c, .int .i64 i, .agg (scopeCells p ps)] u (RG u (opd i)) from hO u (i) (by omega) (by omega) (HE.out.below h))
  have hba := hB i hi
  have ha1 := hba.n
  have ha2 := hba.ok
  have ha3 := hba.top
  clear hba
  generalize opd i = a at *
  obtain ⟨an, aj, ae⟩ := a
  simp only at hz hlt hgg hx ⊢
  subst hz
  obtain ⟨ha4, ha5⟩ := ha2 rfl
  clear ha2
  have HLT := Lib.hid (fun u (h : Below W.heap.size W u) => show Calls Tryz.prog 65 #[.slice x.A x.l.length x.c, .int .i64 aj, .string ⟨#[60, 60]⟩] u fun e w' => e = .returned (.bool false) ∧ u = w' from by
    have := rsym_any x (aj) ⟨#[60, 60]⟩ u (HE.out.toks.below h (Nat.le_refl _))
    rw [show isSym x.l (⟨#[60, 60]⟩ : ByteArray).data.toList (aj) = false by assumption] at this
    exact this)
  have HGG := Lib.hid (fun u (h : Below W.heap.size W u) => show Calls Tryz.prog 65 #[.slice x.A x.l.length x.c, .int .i64 aj, .string ⟨#[62, 62]⟩] u fun e w' => e = .returned (.bool true) ∧ u = w' from by
    have := rsym_any x (aj) ⟨#[62, 62]⟩ u (HE.out.toks.below h (Nat.le_refl _))
    rw [show isSym x.l (⟨#[62, 62]⟩ : ByteArray).data.toList (aj) = true by assumption] at this
    exact this)
  have HEX := Lib.hid (fun u (h : Below W.heap.size W u) => show Calls Tryz.prog 68 #[.slice x.A x.l.length x.c, .int .i64 ((aj : Int) + 1), .int .i64 2, .string ⟨#[]⟩] u fun e w' => e = .returned (.int .i64 (expR x.l (aj + 1) 2 [])) ∧ u = w' from rexp_any x (aj + 1) 2 ⟨#[]⟩ u (HE.out.toks.below h (Nat.le_refl _)))
  generalize expR x.l (aj + 1) 2 [] = ex at *
  have hx' : (ex != 0) = true := bne_iff_ne.2 hx
  have hp1 := hps W HB
  clear E hO hB
  go_enter Tryz.func30, Tryz.ntmps30
  go_upto_region 1 with fail
  rw [← hW]
  clear hW
  go_wp2_with fail
  refine (H126.out W HB).mono ?_
  rintro r w' ⟨rfl, rfl⟩
  go_wp2_with fail
  refine (HA.out W HB).mono ?_
  rintro r w1 ⟨⟨A, c, rfl, hl, hn, hf⟩, hb1⟩
  have HB1 := Lib.hid hb1
  have HL1 := Lib.hid hl
  have HN := Lib.hid hn
  have HF := Lib.hid hf
  clear hb1 hl hn hf HA hp1
  go_upto_region 5 with fail
  obtain ⟨V, hV⟩ : ∃ V, V = w1.alloc (.cells #[.slice A an.length c, .int .i64 aj, .int .i64 0] 88) := ⟨_, rfl⟩
  have HVB : Hid (Blk V w1.heap.size 88 #[.slice A an.length c, .int .i64 aj, .int .i64 0]) := Lib.hid (by rw [hV]; exact Blk.new _ _ _)
  have HBV : Hid (Below W.heap.size W V) := Lib.hid (by rw [hV]; exact below_alloc HB1.out _)
  have HLV : Hid (LOk V 3 NodeD.cells ⟨an, A, c⟩) := Lib.hid (by rw [hV]; exact HL1.out.below (below1 _ _) (Nat.le_refl _))
  have HFW : Hid (∀ a, A = some a → w.heap.size ≤ a.block ∧ a.block ≠ w.heap.size + 1) := Lib.hid (fun a h => by have := HF.out a h; have := HSZ.out; omega)
  have hne : w.heap.size + 2 ≤ w1.heap.size := by have := HB1.out.size; have := HSZ.out; omega
  rw [← hV]
  clear hV
  have v0 : V.cell? ⟨w1.heap.size, 0, none⟩ = some (.slice A an.length c) := HVB.out.cell 0
  have v1 : V.cell? ⟨w1.heap.size, 1, none⟩ = some (.int .i64 aj) := HVB.out.cell 1
  have v2 : V.cell? ⟨w1.heap.size, 2, none⟩ = some (.int .i64 0) := HVB.out.cell 2
  go_wp2_with fail
  refine (HGG.out V HBV.out).mono ?_
  rintro r w' ⟨rfl, rfl⟩
  go_wp2_with fail
  refine (HLT.out V HBV.out).mono ?_
  rintro r w' ⟨rfl, rfl⟩
  go_wp2_with fail
  refine (HGG.out V HBV.out).mono ?_
  rintro r w' ⟨rfl, rfl⟩
  go_wp2_with fail
  refine (HEX.out V HBV.out).mono ?_
  rintro r w' ⟨rfl, rfl⟩
  have HRU := Lib.hid (HRB.out V HBV.out)
  have r0 : V.cell? ⟨w.heap.size + 1, 0, none⟩ = some (.slice none 0 0) := HRU.out.cell 0
  have r1 : V.cell? ⟨w.heap.size + 1, 1, none⟩ = some (.int .i64 0) := HRU.out.cell 1
  have r2 : V.cell? ⟨w.heap.size + 1, 2, none⟩ = some (.int .i64 0) := HRU.out.cell 2
  have g0 : V.frozen? ⟨w.heap.size + 1, 0, none⟩ = false := HRU.out.frozen 0
  have g1 : V.frozen? ⟨w.heap.size + 1, 1, none⟩ = false := HRU.out.frozen 1
  have g2 : V.frozen? ⟨w.heap.size + 1, 2, none⟩ = false := HRU.out.frozen 2
  go_wp2
  refine bodyPost_ret (v := .agg #[.slice none 0 0, .int .i64 0, .int .i64 ex]) ?_ rfl ?_
  · exact results_cell_row (fn := Tryz.f30) (p := 6) (ty := 88) rfl _ _ (w.heap.size + 1) 88 #[.slice none 0 0, .int .i64 0, .int .i64 ex] (0, 0) _ rfl (rput3 HRU.out _ _ _) Tryz.underlying88 rfl (by kernel_rfl)
  · exact (RG.fin (R := ⟨[], 0, ex⟩) (A := none) (c := 0) (Nat.le_succ _) (below_step HW.out HBV.out) ⟨Nat.zero_le _, .inl rfl⟩ (fun _ => rfl) (fun a h => by cases h) _ _ _ rfl)
set_option maxRecDepth 100000 in
set_option maxHeartbeats 8000000 in
theorem rexShrOk {x : L Tk} {p : ProgD} {ps : L FieldD} {i : Nat} {w : World} {opd : Nat → Pd} {R : Pd} (E : REnv w x p ps) (hO : ROpdOk x p ps opd i) (hB : ∀ j, j ≤ x.l.length → RBd x.l j (opd j)) (hi : i ≤ x.l.length) (h126 : isSym x.l [126] i = false) (hz : (opd i).e = 0) (hlt : isSym x.l [60, 60] (opd i).at_ = false) (hgg : isSym x.l [62, 62] (opd i).at_ = true) (hx : expR x.l ((opd i).at_ + 1) 2 [] = 0) (hR : R = rPre ⟨7, (tkAt x.l ((opd i).at_ + 1)).value, 0⟩ (opd i) ⟨[], (opd i).at_ + 2, 0⟩) :
    Calls Tryz.prog 30 #[.slice x.A x.l.length x.c, .int .i64 i, .agg (scopeCells p ps)] w (RG w R) := by
  obtain ⟨W, hW, hw, hsz, hb1, hb2⟩ := boxR w (scopeCells p ps) 44 #[.slice none 0 0, .int .i64 0, .int .i64 0] 88
  have HW := Lib.hid hw
  have HE := Lib.hid (E.below hw)
  have HRB := Lib.hid (fun u (h : Below W.heap.size W u) => hb2.below h hb2.lt)
  have hps := fun u (h : Below W.heap.size W u) => (show ∀ i, i < (scopeCells p ps).size → u.cell? ⟨w.heap.size, i, none⟩ = (scopeCells p ps)[i]? from fun i _ => (hb1.below h hb1.lt).cell i)
  have HSZ : Hid (W.heap.size = w.heap.size + 2) := Lib.hid hsz
  have HB := Below.refl W.heap.size W
  have hm := E.few
  clear hw hsz hb1 hb2
  have H126 := Lib.hid (fun u (h : Below W.heap.size W u) => show Calls Tryz.prog 65 #[.slice x.A x.l.length x.c, .int .i64 i, .string ⟨#[126]⟩] u fun e w' => e = .returned (.bool false) ∧ u = w' from by
    have := rsym_any x (i) ⟨#[126]⟩ u (HE.out.toks.below h (Nat.le_refl _))
    rw [show isSym x.l (⟨#[126]⟩ : ByteArray).data.toList (i) = false by assumption] at this
    exact this)
  have HA := Lib.hid (fun u (h : Below W.heap.size W u) => show Calls Tryz.prog 66 #[.slice x.A x.l.length x.c, .int .i64 i, .agg (scopeCells p ps)] u (RG u (opd i)) from hO u (i) (by omega) (by omega) (HE.out.below h))
  have hba := hB i hi
  have ha1 := hba.n
  have ha2 := hba.ok
  have ha3 := hba.top
  clear hba
  generalize opd i = a at *
  obtain ⟨an, aj, ae⟩ := a
  simp only at hz hlt hgg hx hR ⊢
  subst hz
  obtain ⟨ha4, ha5⟩ := ha2 rfl
  clear ha2
  have HLT := Lib.hid (fun u (h : Below W.heap.size W u) => show Calls Tryz.prog 65 #[.slice x.A x.l.length x.c, .int .i64 aj, .string ⟨#[60, 60]⟩] u fun e w' => e = .returned (.bool false) ∧ u = w' from by
    have := rsym_any x (aj) ⟨#[60, 60]⟩ u (HE.out.toks.below h (Nat.le_refl _))
    rw [show isSym x.l (⟨#[60, 60]⟩ : ByteArray).data.toList (aj) = false by assumption] at this
    exact this)
  have HGG := Lib.hid (fun u (h : Below W.heap.size W u) => show Calls Tryz.prog 65 #[.slice x.A x.l.length x.c, .int .i64 aj, .string ⟨#[62, 62]⟩] u fun e w' => e = .returned (.bool true) ∧ u = w' from by
    have := rsym_any x (aj) ⟨#[62, 62]⟩ u (HE.out.toks.below h (Nat.le_refl _))
    rw [show isSym x.l (⟨#[62, 62]⟩ : ByteArray).data.toList (aj) = true by assumption] at this
    exact this)
  have HEX := Lib.hid (fun u (h : Below W.heap.size W u) => show Calls Tryz.prog 68 #[.slice x.A x.l.length x.c, .int .i64 ((aj : Int) + 1), .int .i64 2, .string ⟨#[]⟩] u fun e w' => e = .returned (.int .i64 (expR x.l (aj + 1) 2 [])) ∧ u = w' from rexp_any x (aj + 1) 2 ⟨#[]⟩ u (HE.out.toks.below h (Nat.le_refl _)))
  rw [hx] at HEX
  have hj1 : aj + 1 < x.l.length := exp_lt hx
  rw [tk_of hj1] at hR
  obtain ⟨g, of, hA, hq⟩ := TkD.atA HE.out.toks hj1
  have hgl := TkD.blk E.toks hj1 hA
  have hv1 := (E.ok _ (List.getElem_mem hj1)).value
  have HQ := Lib.hid hq
  have HAA := Lib.hid hA
  generalize x.l[aj + 1].value = v at *
  have hw1 : IntKind.i64.wrap (v : Int) = (v : Int) := IntWalk.i64_in _ (by omega)
  have hii : (aj : Int) + 1 < (x.l.length : Int) := by omega
  have hii0 : 0 ≤ (aj : Int) + 1 := by omega
  have htn : ((aj : Int) + 1).toNat = aj + 1 := by omega
  have hwr : IntKind.i64.wrap ((aj : Int) + 1) = (aj : Int) + 1 := IntWalk.i64_in _ (by omega)
  have hwr2 : IntKind.i64.wrap ((aj : Int) + 2) = (aj : Int) + 2 := IntWalk.i64_in _ (by omega)
  clear hq hA
  obtain ⟨rn, rj, re⟩ := R
  have hp1 := hps W HB
  clear E hO hB
  go_enter Tryz.func30, Tryz.ntmps30
  go_upto_region 1 with fail
  rw [← hW]
  clear hW
  go_wp2_with fail
  refine (H126.out W HB).mono ?_
  rintro r w' ⟨rfl, rfl⟩
  go_wp2_with fail
  refine (HA.out W HB).mono ?_
  rintro r w1 ⟨⟨A, c, rfl, hl, hn, hf⟩, hb1⟩
  have HB1 := Lib.hid hb1
  have HL1 := Lib.hid hl
  have HN := Lib.hid hn
  have HF := Lib.hid hf
  clear hb1 hl hn hf HA hp1
  go_upto_region 5 with fail
  obtain ⟨V, hV⟩ : ∃ V, V = w1.alloc (.cells #[.slice A an.length c, .int .i64 aj, .int .i64 0] 88) := ⟨_, rfl⟩
  have HVB : Hid (Blk V w1.heap.size 88 #[.slice A an.length c, .int .i64 aj, .int .i64 0]) := Lib.hid (by rw [hV]; exact Blk.new _ _ _)
  have HBV : Hid (Below W.heap.size W V) := Lib.hid (by rw [hV]; exact below_alloc HB1.out _)
  have HLV : Hid (LOk V 3 NodeD.cells ⟨an, A, c⟩) := Lib.hid (by rw [hV]; exact HL1.out.below (below1 _ _) (Nat.le_refl _))
  have HFW : Hid (∀ a, A = some a → w.heap.size ≤ a.block ∧ a.block ≠ w.heap.size + 1) := Lib.hid (fun a h => by have := HF.out a h; have := HSZ.out; omega)
  have hne : w.heap.size + 2 ≤ w1.heap.size := by have := HB1.out.size; have := HSZ.out; omega
  rw [← hV]
  clear hV
  have v0 : V.cell? ⟨w1.heap.size, 0, none⟩ = some (.slice A an.length c) := HVB.out.cell 0
  have v1 : V.cell? ⟨w1.heap.size, 1, none⟩ = some (.int .i64 aj) := HVB.out.cell 1
  have v2 : V.cell? ⟨w1.heap.size, 2, none⟩ = some (.int .i64 0) := HVB.out.cell 2
  go_wp2_with fail
  refine (HGG.out V HBV.out).mono ?_
  rintro r w' ⟨rfl, rfl⟩
  go_wp2_with fail
  refine (HLT.out V HBV.out).mono ?_
  rintro r w' ⟨rfl, rfl⟩
  go_wp2_with fail
  refine (HGG.out V HBV.out).mono ?_
  rintro r w' ⟨rfl, rfl⟩
  go_wp2_with fail
  refine (HEX.out V HBV.out).mono ?_
  rintro r w' ⟨rfl, rfl⟩
  have HPX := Lib.hid (fun u (h : Below V.heap.size V u) => show Calls Tryz.prog 67 #[.agg #[.int .i64 7, .int .i64 v, .int .i64 0], .agg #[.slice A an.length c, .int .i64 aj, .int .i64 0], .agg #[.slice none 0 0, .int .i64 ((aj : Int) + 2), .int .i64 0]] u (RG u ⟨rn, rj, re⟩) from by
    rw [hR]; exact rprefix_any ⟨7, v, 0⟩ ⟨an, aj, 0⟩ ⟨[], aj + 2, 0⟩ A none c 0 u (HLV.out.below h (Nat.le_refl _)) HN.out ⟨Nat.zero_le _, .inl rfl⟩ (fun _ => rfl) (by simp only [List.length_nil]; omega))
  clear hR
  have HS := Lib.hid (fun u (h : Below V.heap.size V u) => show (fun w' => w'.cell? ⟨w1.heap.size, 0, none⟩ = some (.slice A an.length c) ∧ w'.cell? ⟨w1.heap.size, 1, none⟩ = some (.int .i64 aj) ∧ w'.cell? ⟨w1.heap.size, 2, none⟩ = some (.int .i64 0) ∧ w'.cell? ⟨g, of + (aj + 1) * 4 + 2, none⟩ = some (.int .u32 v)) u from ⟨(HVB.out.below h HVB.out.lt).cell 0, (HVB.out.below h HVB.out.lt).cell 1, (HVB.out.below h HVB.out.lt).cell 2, (HQ.out u (below_step HBV.out h)).2.2.1⟩)
  have HS2 := Lib.hid (fun u (h : Below V.heap.size V u) (x y z : Value) => show (fun w' => w'.cell? ⟨w1.heap.size, 0, none⟩ = some (.slice A an.length c) ∧ w'.cell? ⟨w1.heap.size, 1, none⟩ = some (.int .i64 aj) ∧ w'.cell? ⟨w1.heap.size, 2, none⟩ = some (.int .i64 0) ∧ w'.cell? ⟨g, of + (aj + 1) * 4 + 2, none⟩ = some (.int .u32 v)) (((u.setCell ⟨w.heap.size + 1, 0, none⟩ x).setCell ⟨w.heap.size + 1, 1, none⟩ y).setCell ⟨w.heap.size + 1, 2, none⟩ z) from ⟨(cell_put3 (by omega) x y z).trans ((HVB.out.below h HVB.out.lt).cell 0), (cell_put3 (by omega) x y z).trans ((HVB.out.below h HVB.out.lt).cell 1), (cell_put3 (by omega) x y z).trans ((HVB.out.below h HVB.out.lt).cell 2), (cell_put3 (by omega) x y z).trans ((HQ.out u (below_step HBV.out h)).2.2.1)⟩)
  have H0V := Lib.hid (Below.refl V.heap.size V)
  have HLE : Hid (V.heap.size ≤ V.drew.heap.size) := Lib.hid (Nat.le_refl _)
  clear hps v0 v1 v2
  go_upto_region 14 with fail
  simp only [HAA.out]
  refine wp_region_held_drew (S := (fun w' => w'.cell? ⟨w1.heap.size, 0, none⟩ = some (.slice A an.length c) ∧ w'.cell? ⟨w1.heap.size, 1, none⟩ = some (.int .i64 aj) ∧ w'.cell? ⟨w1.heap.size, 2, none⟩ = some (.int .i64 0) ∧ w'.cell? ⟨g, of + (aj + 1) * 4 + 2, none⟩ = some (.int .u32 v))) (by kernel_rfl) (HS.out _ (below_drew H0V.out)) (fun hHeld => ?_)
  refine wpAnyH_take (i := 0) (oi := { dst := some 58, op := Op.move (Operand.tmp 9), type := 3, pos := "ref.go:293", after := #[], guard := none }) (v := ?s7v0) rfl (by kernel_rfl) (by kernel_rfl) (by kernel_rfl) (fun _ _ _ h => h) (Or.inl ⟨by rfl, ?s7y0⟩) (by assumption) ?s7r0
  case s7y0 => (intro w hSw; (try dsimp only at hSw); go_simp; try (with_reducible rfl))
  try simp only [Act.put, List.setIfInBounds_toArray, List.set_cons_zero, List.set_cons_succ]
  refine wpAnyH_take (i := 1) (oi := { dst := some 59, op := Op.move (Operand.tmp 0), type := 56, pos := "ref.go:293", after := #[], guard := none }) (v := ?s7v1) rfl (by kernel_rfl) (by kernel_rfl) (by kernel_rfl) (fun _ _ _ h => h) (Or.inl ⟨by rfl, ?s7y1⟩) (by assumption) ?s7r1
  case s7y1 => (intro w hSw; (try dsimp only at hSw); go_simp; try (with_reducible rfl))
  try simp only [Act.put, List.setIfInBounds_toArray, List.set_cons_zero, List.set_cons_succ]
  refine wpAnyH_take (i := 2) (oi := { dst := some 60, op := Op.fieldAddr 88 (Operand.tmp 8) 1, type := 0, pos := "ref.go:293", after := #[], guard := none }) (v := ?s7v2) rfl (by kernel_rfl) (by kernel_rfl) (by kernel_rfl) (fun _ _ _ h => h) (Or.inl ⟨by rfl, ?s7y2⟩) (by assumption) ?s7r2
  case s7y2 => (intro w hSw; (try dsimp only at hSw); go_simp; try (with_reducible rfl))
  try simp only [Act.put, List.setIfInBounds_toArray, List.set_cons_zero, List.set_cons_succ]
  refine wpAnyH_take (i := 3) (oi := { dst := some 61, op := Op.load 3 (Operand.tmp 60), type := 3, pos := "ref.go:293", after := #[{ on := 2, ground := Ground.data }], guard := none }) (v := ?s7v3) rfl (by kernel_rfl) (by kernel_rfl) (by kernel_rfl) (fun _ _ _ h => h) (Or.inl ⟨by rfl, ?s7y3⟩) (by assumption) ?s7r3
  case s7y3 => (intro w hSw; (try dsimp only at hSw); go_simp; try (with_reducible rfl))
  try simp only [Act.put, List.setIfInBounds_toArray, List.set_cons_zero, List.set_cons_succ]
  refine wpAnyH_take (i := 4) (oi := { dst := some 62, op := Op.binOp BinOp.add 3 (Operand.tmp 61) (Operand.const (Value.int IntKind.i64 1)) 3, type := 3, pos := "ref.go:293", after := #[{ on := 3, ground := Ground.data }], guard := none }) (v := ?s7v4) rfl (by kernel_rfl) (by kernel_rfl) (by kernel_rfl) (fun _ _ _ h => h) (Or.inl ⟨by rfl, ?s7y4⟩) (by assumption) ?s7r4
  case s7y4 => (intro w hSw; (try dsimp only at hSw); go_simp; try (with_reducible rfl))
  try simp only [Act.put, List.setIfInBounds_toArray, List.set_cons_zero, List.set_cons_succ]
  refine wpAnyH_take (i := 5) (oi := { dst := some 63, op := Op.indexAddr 56 (Operand.tmp 59) (Operand.tmp 62), type := 0, pos := "ref.go:293", after := #[{ on := 1, ground := Ground.data }, { on := 4, ground := Ground.data }], guard := none }) (v := ?s7v5) rfl (by kernel_rfl) (by kernel_rfl) (by kernel_rfl) (fun _ _ _ h => h) (Or.inl ⟨by rfl, ?s7y5⟩) (by assumption) ?s7r5
  case s7y5 => (intro w hSw; (try dsimp only at hSw); go_simp; try (with_reducible rfl))
  try simp only [Act.put, List.setIfInBounds_toArray, List.set_cons_zero, List.set_cons_succ]
  refine wpAnyH_take (i := 6) (oi := { dst := some 64, op := Op.fieldAddr 90 (Operand.tmp 63) 2, type := 0, pos := "ref.go:293", after := #[{ on := 5, ground := Ground.data }], guard := none }) (v := ?s7v6) rfl (by kernel_rfl) (by kernel_rfl) (by kernel_rfl) (fun _ _ _ h => h) (Or.inl ⟨by rfl, ?s7y6⟩) (by assumption) ?s7r6
  case s7y6 => (intro w hSw; (try dsimp only at hSw); go_simp; try (with_reducible rfl))
  try simp only [Act.put, List.setIfInBounds_toArray, List.set_cons_zero, List.set_cons_succ]
  refine wpAnyH_take (i := 7) (oi := { dst := some 65, op := Op.load 79 (Operand.tmp 64), type := 79, pos := "ref.go:293", after := #[{ on := 6, ground := Ground.data }], guard := none }) (v := ?s7v7) rfl (by kernel_rfl) (by kernel_rfl) (by kernel_rfl) (fun _ _ _ h => h) (Or.inl ⟨by rfl, ?s7y7⟩) (by assumption) ?s7r7
  case s7y7 => (intro w hSw; (try dsimp only at hSw); go_simp; try (with_reducible rfl))
  try simp only [Act.put, List.setIfInBounds_toArray, List.set_cons_zero, List.set_cons_succ]
  refine wpAnyH_take (i := 8) (oi := { dst := some 66, op := Op.convert 79 3 (Operand.tmp 65), type := 3, pos := "ref.go:293", after := #[{ on := 7, ground := Ground.data }], guard := none }) (v := ?s7v8) rfl (by kernel_rfl) (by kernel_rfl) (by kernel_rfl) (fun _ _ _ h => h) (Or.inl ⟨by rfl, ?s7y8⟩) (by assumption) ?s7r8
  case s7y8 => (intro w hSw; (try dsimp only at hSw); go_simp; try (with_reducible rfl))
  try simp only [Act.put, List.setIfInBounds_toArray, List.set_cons_zero, List.set_cons_succ]
  refine wpAnyH_take (i := 9) (oi := { dst := some 67, op := Op.build 65 #[(0, Operand.tmp 58), (1, Operand.tmp 66)], type := 65, pos := "ref.go:293", after := #[{ on := 0, ground := Ground.data }, { on := 8, ground := Ground.data }], guard := none }) (v := ?s7v9) rfl (by kernel_rfl) (by kernel_rfl) (by kernel_rfl) (fun _ _ _ h => h) (Or.inl ⟨by rfl, ?s7y9⟩) (by assumption) ?s7r9
  case s7y9 => (intro w hSw; (try dsimp only at hSw); go_simp; try (with_reducible rfl))
  try simp only [Act.put, List.setIfInBounds_toArray, List.set_cons_zero, List.set_cons_succ]
  refine wpAnyH_take (i := 10) (oi := { dst := some 68, op := Op.load 88 (Operand.tmp 8), type := 88, pos := "ref.go:293", after := #[], guard := none }) (v := ?s7v10) rfl (by kernel_rfl) (by kernel_rfl) (by kernel_rfl) (fun _ _ _ h => h) (Or.inl ⟨by rfl, ?s7y10⟩) (by assumption) ?s7r10
  case s7y10 => (intro w hSw; (try dsimp only at hSw); go_simp; try (with_reducible rfl))
  try simp only [Act.put, List.setIfInBounds_toArray, List.set_cons_zero, List.set_cons_succ]
  refine wpAnyH_take (i := 11) (oi := { dst := some 69, op := Op.fieldAddr 88 (Operand.tmp 8) 1, type := 0, pos := "ref.go:293", after := #[], guard := none }) (v := ?s7v11) rfl (by kernel_rfl) (by kernel_rfl) (by kernel_rfl) (fun _ _ _ h => h) (Or.inl ⟨by rfl, ?s7y11⟩) (by assumption) ?s7r11
  case s7y11 => (intro w hSw; (try dsimp only at hSw); go_simp; try (with_reducible rfl))
  try simp only [Act.put, List.setIfInBounds_toArray, List.set_cons_zero, List.set_cons_succ]
  refine wpAnyH_take (i := 12) (oi := { dst := some 70, op := Op.load 3 (Operand.tmp 69), type := 3, pos := "ref.go:293", after := #[{ on := 11, ground := Ground.data }], guard := none }) (v := ?s7v12) rfl (by kernel_rfl) (by kernel_rfl) (by kernel_rfl) (fun _ _ _ h => h) (Or.inl ⟨by rfl, ?s7y12⟩) (by assumption) ?s7r12
  case s7y12 => (intro w hSw; (try dsimp only at hSw); go_simp; try (with_reducible rfl))
  try simp only [Act.put, List.setIfInBounds_toArray, List.set_cons_zero, List.set_cons_succ]
  refine wpAnyH_take (i := 13) (oi := { dst := some 71, op := Op.binOp BinOp.add 3 (Operand.tmp 70) (Operand.const (Value.int IntKind.i64 2)) 3, type := 3, pos := "ref.go:293", after := #[{ on := 12, ground := Ground.data }], guard := none }) (v := ?s7v13) rfl (by kernel_rfl) (by kernel_rfl) (by kernel_rfl) (fun _ _ _ h => h) (Or.inl ⟨by rfl, ?s7y13⟩) (by assumption) ?s7r13
  case s7y13 => (intro w hSw; (try dsimp only at hSw); go_simp; try (with_reducible rfl))
  try simp only [Act.put, List.setIfInBounds_toArray, List.set_cons_zero, List.set_cons_succ]
  refine wpAnyH_take (i := 14) (oi := { dst := some 72, op := Op.build 88 #[(1, Operand.tmp 71)], type := 88, pos := "ref.go:293", after := #[{ on := 13, ground := Ground.data }], guard := none }) (v := ?s7v14) rfl (by kernel_rfl) (by kernel_rfl) (by kernel_rfl) (fun _ _ _ h => h) (Or.inl ⟨by rfl, ?s7y14⟩) (by assumption) ?s7r14
  case s7y14 => (intro w hSw; (try dsimp only at hSw); go_simp; try (with_reducible rfl))
  try simp only [Act.put, List.setIfInBounds_toArray, List.set_cons_zero, List.set_cons_succ]
  refine wpAnyH_ready (rs := [15]) (by kernel_rfl) (by simp) ?_
  refine AllReadyH.cons (o := { dst := some 73, op := Op.call { callee := Callee.value (Operand.func 67), args := #[Operand.tmp 67, Operand.tmp 68, Operand.tmp 72], argTypes := #[65, 88, 88] }, type := 88, pos := "ref.go:293", after := #[{ on := 9, ground := Ground.data }, { on := 10, ground := Ground.data }, { on := 14, ground := Ground.data }], guard := none }) rfl (fun K hK => ?_) AllReadyH.nil
  go_simp
  go_at_call 67
  refine (HPX.out _ (below_drew H0V.out)).mono ?_
  rintro r w5 ⟨⟨A5, c5, rfl, hl5, hn5, hf5⟩, hb5⟩
  have HB5 : Hid (Below V.heap.size V w5) := Lib.hid (below_step (below_drew H0V.out) hb5)
  have HL5 := Lib.hid hl5
  have HN5 := Lib.hid hn5
  have HF5 := Lib.hid hf5
  have hNEW := HS.out w5 HB5.out
  refine hK.out _ _ hNEW (fun hHeld5 => ?_)
  clear hK K hl5 hn5 hf5 hb5 hNEW
  refine wpAnyH_ready (rs := [16]) (by kernel_rfl) (by simp) ?_
  refine AllReadyH.cons (o := { dst := none, op := Op.store 88 (Operand.tmp 6) (Operand.tmp 73), type := 0, pos := "ref.go:293", after := #[{ on := 15, ground := Ground.data }, { on := 15, ground := Ground.chain }, { on := 0, ground := Ground.phase }, { on := 1, ground := Ground.phase }, { on := 2, ground := Ground.phase }, { on := 3, ground := Ground.phase }, { on := 4, ground := Ground.phase }, { on := 5, ground := Ground.phase }, { on := 6, ground := Ground.phase }, { on := 7, ground := Ground.phase }, { on := 8, ground := Ground.phase }, { on := 9, ground := Ground.phase }, { on := 10, ground := Ground.phase }, { on := 11, ground := Ground.phase }, { on := 12, ground := Ground.phase }, { on := 13, ground := Ground.phase }, { on := 14, ground := Ground.phase }, { on := 15, ground := Ground.phase }], guard := none }) rfl (fun K hK => ?_) AllReadyH.nil
  have HRU := Lib.hid (HRB.out w5 (below_step HBV.out HB5.out))
  have r0 : w5.cell? ⟨w.heap.size + 1, 0, none⟩ = some (.slice none 0 0) := HRU.out.cell 0
  have r1 : w5.cell? ⟨w.heap.size + 1, 1, none⟩ = some (.int .i64 0) := HRU.out.cell 1
  have r2 : w5.cell? ⟨w.heap.size + 1, 2, none⟩ = some (.int .i64 0) := HRU.out.cell 2
  have g0 : w5.frozen? ⟨w.heap.size + 1, 0, none⟩ = false := HRU.out.frozen 0
  have g1 : w5.frozen? ⟨w.heap.size + 1, 1, none⟩ = false := HRU.out.frozen 1
  have g2 : w5.frozen? ⟨w.heap.size + 1, 2, none⟩ = false := HRU.out.frozen 2
  go_simp
  have hNEW := HS2.out w5 HB5.out (.slice A5 rn.length c5) (.int .i64 rj) (.int .i64 re)
  refine hK.out _ _ hNEW (fun hHeld9 => ?_)
  clear hK K hNEW hHeld9 r0 r1 r2 g0 g1 g2
  refine wpAnyH_done (by kernel_rfl) ?_ _
  have HFAR : Hid (w.heap.size ≤ V.heap.size ∧ w.heap.size + 1 < V.heap.size) := Lib.hid (by have := HBV.out.size; have := HSZ.out; omega)
  go_wp2
  refine bodyPost_ret (v := .agg #[.slice A5 rn.length c5, .int .i64 rj, .int .i64 re]) ?_ rfl ?_
  · exact results_cell_row (fn := Tryz.f30) (p := 6) (ty := 88) rfl _ _ (w.heap.size + 1) 88 #[.slice A5 rn.length c5, .int .i64 rj, .int .i64 re] (0, 0) _ rfl (rput3 HRU.out _ _ _) Tryz.underlying88 rfl (by kernel_rfl)
  · exact RG.put (R := ⟨rn, rj, re⟩) (A := A5) (c := c5) (W := V) (Nat.le_succ _) (below_step HW.out (below_step HBV.out HB5.out)) HL5.out HN5.out (fun a h => Nat.le_trans HLE.out (HF5.out a h)) HFAR.out _ _ _ rfl
end Go.Proofs.YtpomjcndeanjgaaGreatDoor
