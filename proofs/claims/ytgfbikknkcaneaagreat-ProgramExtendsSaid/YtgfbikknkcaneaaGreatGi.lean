/- The walk of the law ProgramNames. No condition but that the program was read from memory. -/
import Derived.Test.YtgfbikknkcaneaaGreatGh
import Derived.Deep.RegionHeld3
namespace Go.Proofs.YtgfbikknkcaneaaGreat
open Go.RowKit

set_option maxRecDepth 100000 in
set_option maxHeartbeats 4000000 in
theorem found_any (p : ProgD) (part : Int) (s : ByteArray) (i : Nat) (w : World) (h : ProgOk w p) (hs : Short p) (hl : lookM (namesOf p part) s = ((i : Int), true)) :
    Calls Tryz.prog 25 #[.agg (progCells p), .int .i64 part, .string s, .int .i64 i] w fun e w' => e = .returned (.bool true) ∧ Below w.heap.size w w' := by
  obtain ⟨W, hW, hw, HB, hp⟩ := box1 w (progCells p) 31
  have HW := Lib.hid hw
  have hc := lookup_any p part s W (h.below hw) hs
  rw [hl] at hc
  have HC := Lib.hid hc
  clear h hw hl hc hs
  go_enter Tryz.func25, Tryz.ntmps25
  go_upto_region 1 with fail
  rw [← hW]
  clear hW
  go_wp2_with fail
  refine HC.out.mono ?_
  rintro e w1 ⟨rfl, hbN⟩
  replace HB := below_step HB hbN
  clear hbN HC
  go_wp2
  go_ret
  exact ⟨rfl, below_step HW.out HB⟩
theorem names_len (p : ProgD) : (namesOf p 1).length = p.headers.l.length ∧ (namesOf p 2).length = p.metadata.l.length ∧ (namesOf p 3).length = p.registers.l.length ∧ (namesOf p 4).length = p.actions.l.length ∧ (namesOf p 5).length = p.tables.l.length ∧ (namesOf p 6).length = p.states.l.length := by
  refine ⟨?_, ?_, ?_, ?_, ?_, ?_⟩ <;> simp [namesOf]
set_option maxRecDepth 100000 in
set_option maxHeartbeats 16000000 in
theorem law_names (p : ProgD) (w : World) (h : ProgGood w p) :
    Calls Tryz.prog 8 #[.agg (progCells p)] w fun e w' => e = .returned (.bool true) ∧ Below w.heap.size w w' := by
  obtain ⟨W, hW, hw, HB, hp⟩ := box1 w (progCells p) 31
  have HW := Lib.hid hw
  have HO := Lib.hid (h.ok.below hw)
  have HL := Lib.hid (tooLarge_any p W HO.out (len_cap h.control (by decide)) h.caps)
  have HCap := Lib.hid h.cap
  clear h hw
  go_enter Tryz.func8, Tryz.ntmps8
  go_upto_region 1 with fail
  rw [← hW]
  clear hW
  go_wp2_with fail
  refine HL.out.mono ?_
  rintro e w1 ⟨⟨b, rfl, hb⟩, hbN⟩
  replace HB := below_step HB hbN
  have HS := Lib.hid hb
  clear hbN hb HL
  cases b with
  | true =>
    go_wp2_with fail
    refine (works_any _).mono ?_
    rintro e w2 ⟨rfl, hbN⟩
    replace HB := below_step HB hbN
    clear hbN
    go_wp2
    go_ret
    exact ⟨rfl, below_step HW.out HB⟩
  | false =>
  have HSm := Lib.hid (HS.out rfl)
  clear HS
  have hk := check_any p _ (HO.out.below HB) HCap.out (Nat.le_trans HSm.out.nodes (by decide))
  rw [diag_val] at hk
  have HD : Hid ((diagM p).code = 0 → checkM p = none) := Lib.hid diagM_ok
  generalize (diagM p).code = c at *
  generalize (diagM p).part = d1 at *
  generalize (diagM p).item = d2 at *
  generalize (diagM p).sub = d3 at *
  have HK := Lib.hid hk
  clear hk
  have hd := diag_code c d1 d2 d3
  by_cases hc : c = 0
  case neg =>
    have hc' : (c == 0) = false := beq_eq_false_iff_ne.2 hc
    clear hc
    go_wp2_with fail
    refine HK.out.mono ?_
    rintro e w2 ⟨rfl, hbN⟩
    replace HB := below_step HB hbN
    clear hbN HK
    go_wp2_with fail
    refine (works_any _).mono ?_
    rintro e w3 ⟨rfl, hbN⟩
    replace HB := below_step HB hbN
    clear hbN
    go_wp2
    go_ret
    exact ⟨rfl, below_step HW.out HB⟩
  subst hc
  have HCk := Lib.hid (HD.out rfl)
  clear HD
  go_wp2_with fail
  refine HK.out.mono ?_
  rintro e w2 ⟨rfl, hbN⟩
  replace HB := below_step HB hbN
  clear hbN HK
  have HF0 : Hid (∀ k (hk : k < p.headers.l.length) u, Below W.heap.size W u → Calls Tryz.prog 25 #[.agg (progCells p), .int .i64 1, .string p.headers.l[k].name, .int .i64 k] u fun e w2 => e = .returned (.bool true) ∧ Below u.heap.size u w2) :=
    Lib.hid (fun k hk u hb => found_any p 1 _ k u (HO.out.below hb) HSm.out.short (by have := names_first HCk.out 1 k (by have := names_len p; omega); simpa [namesOf] using this))
  have HF1 : Hid (∀ k (hk : k < p.metadata.l.length) u, Below W.heap.size W u → Calls Tryz.prog 25 #[.agg (progCells p), .int .i64 2, .string p.metadata.l[k].name, .int .i64 k] u fun e w2 => e = .returned (.bool true) ∧ Below u.heap.size u w2) :=
    Lib.hid (fun k hk u hb => found_any p 2 _ k u (HO.out.below hb) HSm.out.short (by have := names_first HCk.out 2 k (by have := names_len p; omega); simpa [namesOf] using this))
  have HF2 : Hid (∀ k (hk : k < p.registers.l.length) u, Below W.heap.size W u → Calls Tryz.prog 25 #[.agg (progCells p), .int .i64 3, .string p.registers.l[k].name, .int .i64 k] u fun e w2 => e = .returned (.bool true) ∧ Below u.heap.size u w2) :=
    Lib.hid (fun k hk u hb => found_any p 3 _ k u (HO.out.below hb) HSm.out.short (by have := names_first HCk.out 3 k (by have := names_len p; omega); simpa [namesOf] using this))
  have HF3 : Hid (∀ k (hk : k < p.actions.l.length) u, Below W.heap.size W u → Calls Tryz.prog 25 #[.agg (progCells p), .int .i64 4, .string p.actions.l[k].name, .int .i64 k] u fun e w2 => e = .returned (.bool true) ∧ Below u.heap.size u w2) :=
    Lib.hid (fun k hk u hb => found_any p 4 _ k u (HO.out.below hb) HSm.out.short (by have := names_first HCk.out 4 k (by have := names_len p; omega); simpa [namesOf] using this))
  have HF4 : Hid (∀ k (hk : k < p.tables.l.length) u, Below W.heap.size W u → Calls Tryz.prog 25 #[.agg (progCells p), .int .i64 5, .string p.tables.l[k].name, .int .i64 k] u fun e w2 => e = .returned (.bool true) ∧ Below u.heap.size u w2) :=
    Lib.hid (fun k hk u hb => found_any p 5 _ k u (HO.out.below hb) HSm.out.short (by have := names_first HCk.out 5 k (by have := names_len p; omega); simpa [namesOf] using this))
  have HF5 : Hid (∀ k (hk : k < p.states.l.length) u, Below W.heap.size W u → Calls Tryz.prog 25 #[.agg (progCells p), .int .i64 6, .string p.states.l[k].name, .int .i64 k] u fun e w2 => e = .returned (.bool true) ∧ Below u.heap.size u w2) :=
    Lib.hid (fun k hk u hb => found_any p 6 _ k u (HO.out.below hb) HSm.out.short (by have := names_first HCk.out 6 k (by have := names_len p; omega); simpa [namesOf] using this))
  clear HCk HSm HCap
  obtain ⟨nm, ⟨hl0, hA0, hc0⟩, ⟨ml0, mA0, mc0⟩, ⟨rl0, rA0, rc0⟩, ⟨al0, aA0, ac0⟩, ⟨tl0, tA0, tc0⟩, ⟨sl0, sA0, sc0⟩, ⟨cl0, cA0, cc0⟩, ⟨dl0, dA0, dc0⟩⟩ := p
  simp only [progCells] at *
  go_wp2
  have HB0 := Lib.hid HB
  have hmx0 : hl0.length ≤ 9223372036854775807 := HO.out.headers.1
  clear HB
  go_loopw [3] (fun iv wr => ∃ k : Nat, k ≤ hl0.length ∧ iv = .int .i64 k ∧ Below W.heap.size W wr) (fun i _ => hl0.length - (intOf i).toNat)
  case atStart => exact ⟨0, Nat.zero_le _, rfl, HB0.out⟩
  case round =>
  obtain ⟨k0, hk0, rfl, HB⟩ := hrel
  by_cases hlt : k0 < hl0.length
  · obtain ⟨g, of, hA, hall⟩ := HeaderD.atA (HO.out.headers.below HB (Nat.le_refl _)) hlt
    simp only at hA
    subst hA
    have hh : ∀ w', Below wr.heap.size wr w' → w'.cell? ⟨g, of + k0 * 2, none⟩ = some (.string hl0[k0].name) := fun w' h => (hall w' h).1
    have hq := fun w' (h : Below wr.heap.size wr w') => hp w' (below_step HB h)
    have HC : Hid (∀ u, Below wr.heap.size wr u → _) := Lib.hid (fun u hb => HF0.out k0 hlt u (below_step HB hb))
    generalize hl0[k0].name = s at *
    have H0 := Lib.hid (Below.refl wr.heap.size wr)
    have HBw := Lib.hid HB
    clear HB hall hp
    have hB0 : Below wr.heap.size wr wr := Below.refl _ _
    go_upto_region 6 with fail
    go_region_held3 (fun w' => Below wr.heap.size wr w') (first | exact H0.out | exact below_drew H0.out | (exact below_step (by assumption) (by assumption)) | assumption)
      (first | (go_at_call 25; with_reducible (refine (HC.out _ (by assumption)).mono ?_); rintro e w5 ⟨rfl, hb1⟩))
    have HB5 : Hid (Below wr.heap.size wr _) := Lib.hid (by assumption)
    go_wp2
    go_roundw
    case rel => exact ⟨k0 + 1, by omega, by go_num, below_step HBw.out HB5.out⟩
    case measure => simp [intOf]; omega
  go_wp2
  have HB1 := Lib.hid HB
  have hmx1 : ml0.length ≤ 9223372036854775807 := HO.out.metadata.1
  clear HB
  go_loopw [4] (fun iv wr => ∃ k : Nat, k ≤ ml0.length ∧ iv = .int .i64 k ∧ Below W.heap.size W wr) (fun i _ => ml0.length - (intOf i).toNat)
  case atStart => exact ⟨0, Nat.zero_le _, rfl, HB1.out⟩
  case round =>
  obtain ⟨k1, hk1, rfl, HB⟩ := hrel
  by_cases hlt : k1 < ml0.length
  · obtain ⟨g, of, hA, hall⟩ := FieldD.atA (HO.out.metadata.below HB (Nat.le_refl _)) hlt
    simp only at hA
    subst hA
    have hh : ∀ w', Below wr.heap.size wr w' → w'.cell? ⟨g, of + k1 * 2, none⟩ = some (.string ml0[k1].name) := fun w' h => (hall w' h).1
    have hq := fun w' (h : Below wr.heap.size wr w') => hp w' (below_step HB h)
    have HC : Hid (∀ u, Below wr.heap.size wr u → _) := Lib.hid (fun u hb => HF1.out k1 hlt u (below_step HB hb))
    generalize ml0[k1].name = s at *
    have H0 := Lib.hid (Below.refl wr.heap.size wr)
    have HBw := Lib.hid HB
    clear HB hall hp
    have hB0 : Below wr.heap.size wr wr := Below.refl _ _
    go_upto_region 11 with fail
    go_region_held3 (fun w' => Below wr.heap.size wr w') (first | exact H0.out | exact below_drew H0.out | (exact below_step (by assumption) (by assumption)) | assumption)
      (first | (go_at_call 25; with_reducible (refine (HC.out _ (by assumption)).mono ?_); rintro e w5 ⟨rfl, hb1⟩))
    have HB5 : Hid (Below wr.heap.size wr _) := Lib.hid (by assumption)
    go_wp2
    go_roundw
    case rel => exact ⟨k1 + 1, by omega, by go_num, below_step HBw.out HB5.out⟩
    case measure => simp [intOf]; omega
  go_wp2
  have HB2 := Lib.hid HB
  have hmx2 : rl0.length ≤ 9223372036854775807 := HO.out.registers.1
  clear HB
  go_loopw [5] (fun iv wr => ∃ k : Nat, k ≤ rl0.length ∧ iv = .int .i64 k ∧ Below W.heap.size W wr) (fun i _ => rl0.length - (intOf i).toNat)
  case atStart => exact ⟨0, Nat.zero_le _, rfl, HB2.out⟩
  case round =>
  obtain ⟨k2, hk2, rfl, HB⟩ := hrel
  by_cases hlt : k2 < rl0.length
  · obtain ⟨g, of, hA, hall⟩ := RegD.atA (HO.out.registers.below HB (Nat.le_refl _)) hlt
    simp only at hA
    subst hA
    have hh : ∀ w', Below wr.heap.size wr w' → w'.cell? ⟨g, of + k2 * 3, none⟩ = some (.string rl0[k2].name) := fun w' h => (hall w' h).1
    have hq := fun w' (h : Below wr.heap.size wr w') => hp w' (below_step HB h)
    have HC : Hid (∀ u, Below wr.heap.size wr u → _) := Lib.hid (fun u hb => HF2.out k2 hlt u (below_step HB hb))
    generalize rl0[k2].name = s at *
    have H0 := Lib.hid (Below.refl wr.heap.size wr)
    have HBw := Lib.hid HB
    clear HB hall hp
    have hB0 : Below wr.heap.size wr wr := Below.refl _ _
    go_upto_region 16 with fail
    go_region_held3 (fun w' => Below wr.heap.size wr w') (first | exact H0.out | exact below_drew H0.out | (exact below_step (by assumption) (by assumption)) | assumption)
      (first | (go_at_call 25; with_reducible (refine (HC.out _ (by assumption)).mono ?_); rintro e w5 ⟨rfl, hb1⟩))
    have HB5 : Hid (Below wr.heap.size wr _) := Lib.hid (by assumption)
    go_wp2
    go_roundw
    case rel => exact ⟨k2 + 1, by omega, by go_num, below_step HBw.out HB5.out⟩
    case measure => simp [intOf]; omega
  go_wp2
  have HB3 := Lib.hid HB
  have hmx3 : al0.length ≤ 9223372036854775807 := HO.out.actions.1
  clear HB
  go_loopw [6] (fun iv wr => ∃ k : Nat, k ≤ al0.length ∧ iv = .int .i64 k ∧ Below W.heap.size W wr) (fun i _ => al0.length - (intOf i).toNat)
  case atStart => exact ⟨0, Nat.zero_le _, rfl, HB3.out⟩
  case round =>
  obtain ⟨k3, hk3, rfl, HB⟩ := hrel
  by_cases hlt : k3 < al0.length
  · obtain ⟨g, of, hA, hall⟩ := ActD.atA (HO.out.actions.below HB (Nat.le_refl _)) hlt
    simp only at hA
    subst hA
    have hh : ∀ w', Below wr.heap.size wr w' → w'.cell? ⟨g, of + k3 * 3, none⟩ = some (.string al0[k3].name) := fun w' h => (hall w' h).1
    have hq := fun w' (h : Below wr.heap.size wr w') => hp w' (below_step HB h)
    have HC : Hid (∀ u, Below wr.heap.size wr u → _) := Lib.hid (fun u hb => HF3.out k3 hlt u (below_step HB hb))
    generalize al0[k3].name = s at *
    have H0 := Lib.hid (Below.refl wr.heap.size wr)
    have HBw := Lib.hid HB
    clear HB hall hp
    have hB0 : Below wr.heap.size wr wr := Below.refl _ _
    go_upto_region 21 with fail
    go_region_held3 (fun w' => Below wr.heap.size wr w') (first | exact H0.out | exact below_drew H0.out | (exact below_step (by assumption) (by assumption)) | assumption)
      (first | (go_at_call 25; with_reducible (refine (HC.out _ (by assumption)).mono ?_); rintro e w5 ⟨rfl, hb1⟩))
    have HB5 : Hid (Below wr.heap.size wr _) := Lib.hid (by assumption)
    go_wp2
    go_roundw
    case rel => exact ⟨k3 + 1, by omega, by go_num, below_step HBw.out HB5.out⟩
    case measure => simp [intOf]; omega
  go_wp2
  have HB4 := Lib.hid HB
  have hmx4 : tl0.length ≤ 9223372036854775807 := HO.out.tables.1
  clear HB
  go_loopw [7] (fun iv wr => ∃ k : Nat, k ≤ tl0.length ∧ iv = .int .i64 k ∧ Below W.heap.size W wr) (fun i _ => tl0.length - (intOf i).toNat)
  case atStart => exact ⟨0, Nat.zero_le _, rfl, HB4.out⟩
  case round =>
  obtain ⟨k4, hk4, rfl, HB⟩ := hrel
  by_cases hlt : k4 < tl0.length
  · obtain ⟨g, of, hA, hall⟩ := TabD.atA (HO.out.tables.below HB (Nat.le_refl _)) hlt
    simp only at hA
    subst hA
    have hh : ∀ w', Below wr.heap.size wr w' → w'.cell? ⟨g, of + k4 * 6, none⟩ = some (.string tl0[k4].name) := fun w' h => (hall w' h).1
    have hq := fun w' (h : Below wr.heap.size wr w') => hp w' (below_step HB h)
    have HC : Hid (∀ u, Below wr.heap.size wr u → _) := Lib.hid (fun u hb => HF4.out k4 hlt u (below_step HB hb))
    generalize tl0[k4].name = s at *
    have H0 := Lib.hid (Below.refl wr.heap.size wr)
    have HBw := Lib.hid HB
    clear HB hall hp
    have hB0 : Below wr.heap.size wr wr := Below.refl _ _
    go_upto_region 26 with fail
    go_region_held3 (fun w' => Below wr.heap.size wr w') (first | exact H0.out | exact below_drew H0.out | (exact below_step (by assumption) (by assumption)) | assumption)
      (first | (go_at_call 25; with_reducible (refine (HC.out _ (by assumption)).mono ?_); rintro e w5 ⟨rfl, hb1⟩))
    have HB5 : Hid (Below wr.heap.size wr _) := Lib.hid (by assumption)
    go_wp2
    go_roundw
    case rel => exact ⟨k4 + 1, by omega, by go_num, below_step HBw.out HB5.out⟩
    case measure => simp [intOf]; omega
  go_wp2
  have HB5 := Lib.hid HB
  have hmx5 : sl0.length ≤ 9223372036854775807 := HO.out.states.1
  clear HB
  go_loopw [8] (fun iv wr => ∃ k : Nat, k ≤ sl0.length ∧ iv = .int .i64 k ∧ Below W.heap.size W wr) (fun i _ => sl0.length - (intOf i).toNat)
  case atStart => exact ⟨0, Nat.zero_le _, rfl, HB5.out⟩
  case round =>
  obtain ⟨k5, hk5, rfl, HB⟩ := hrel
  by_cases hlt : k5 < sl0.length
  · obtain ⟨g, of, hA, hall⟩ := StateD.atA (HO.out.states.below HB (Nat.le_refl _)) hlt
    simp only at hA
    subst hA
    have hh : ∀ w', Below wr.heap.size wr w' → w'.cell? ⟨g, of + k5 * 7, none⟩ = some (.string sl0[k5].name) := fun w' h => (hall w' h).1
    have hq := fun w' (h : Below wr.heap.size wr w') => hp w' (below_step HB h)
    have HC : Hid (∀ u, Below wr.heap.size wr u → _) := Lib.hid (fun u hb => HF5.out k5 hlt u (below_step HB hb))
    generalize sl0[k5].name = s at *
    have H0 := Lib.hid (Below.refl wr.heap.size wr)
    have HBw := Lib.hid HB
    clear HB hall hp
    have hB0 : Below wr.heap.size wr wr := Below.refl _ _
    go_upto_region 31 with fail
    go_region_held3 (fun w' => Below wr.heap.size wr w') (first | exact H0.out | exact below_drew H0.out | (exact below_step (by assumption) (by assumption)) | assumption)
      (first | (go_at_call 25; with_reducible (refine (HC.out _ (by assumption)).mono ?_); rintro e w5 ⟨rfl, hb1⟩))
    have HB5 : Hid (Below wr.heap.size wr _) := Lib.hid (by assumption)
    go_wp2
    go_roundw
    case rel => exact ⟨k5 + 1, by omega, by go_num, below_step HBw.out HB5.out⟩
    case measure => simp [intOf]; omega
  go_wp2_with fail
  refine (works_any _).mono ?_
  rintro e w7 ⟨rfl, hbN⟩
  replace HB := below_step HB hbN
  clear hbN
  go_wp2
  go_ret
  exact ⟨rfl, below_step HW.out HB⟩
end Go.Proofs.YtgfbikknkcaneaaGreat
