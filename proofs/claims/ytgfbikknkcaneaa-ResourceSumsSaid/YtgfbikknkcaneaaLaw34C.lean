/- Walk of the law ResourceSums. -/
import Derived.Test.YtgfbikknkcaneaaLaw34A
import Derived.Deep.RegionHeld3
namespace Go.Proofs.Ytgfbikknkcaneaa
open Go.RowKit

@[reducible] def chipCells (c : Fin 8 → Int) : Array Value := #[.int .i64 (c 0), .int .i64 (c 1), .int .i64 (c 2), .int .i64 (c 3), .int .i64 (c 4), .int .i64 (c 5), .int .i64 (c 6), .int .i64 (c 7)]
theorem chip_box (w : World) (c : Fin 8 → Int) (t : TypeId) : ∃ W, W = w.alloc (.cells (chipCells c) t) ∧ Below w.heap.size w W ∧ W.heap.size = w.heap.size + 1 ∧ ∀ w', Below W.heap.size W w' →
    (w'.cell? ⟨w.heap.size, 0, none⟩ = some (.int .i64 (c 0)) ∧ w'.cell? ⟨w.heap.size, 1, none⟩ = some (.int .i64 (c 1)) ∧ w'.cell? ⟨w.heap.size, 2, none⟩ = some (.int .i64 (c 2)) ∧
     w'.cell? ⟨w.heap.size, 3, none⟩ = some (.int .i64 (c 3)) ∧ w'.cell? ⟨w.heap.size, 4, none⟩ = some (.int .i64 (c 4)) ∧ w'.cell? ⟨w.heap.size, 5, none⟩ = some (.int .i64 (c 5)) ∧
     w'.cell? ⟨w.heap.size, 6, none⟩ = some (.int .i64 (c 6)) ∧ w'.cell? ⟨w.heap.size, 7, none⟩ = some (.int .i64 (c 7))) := by
  refine ⟨_, rfl, below1 _ _, by simp, fun w' hb => ⟨?_, ?_, ?_, ?_, ?_, ?_, ?_, ?_⟩⟩ <;> exact below_cell hb (by simp)

set_option maxRecDepth 100000 in
set_option maxHeartbeats 4000000 in
theorem sums_any (x : L ResD) (c : Fin 8 → Int) (w : World) (h : LOk w 2 ResD.cells x) (hw : ∀ r ∈ x.l, r.wf) :
    Calls Try.prog 3 #[x.v, .agg (chipCells c)] w fun e w' => e = .returned (.bool true) ∧ Below w.heap.size w w' := by
  obtain ⟨l, A0, c0⟩ := x
  have HL := Lib.hid h
  have HW := Lib.hid hw
  obtain ⟨W, hW, hb, hsz, hp⟩ := chip_box w c 24
  have HB := Lib.hid hb
  have HSZ := Lib.hid hsz
  have HP := Lib.hid hp
  clear h hw hb hp hsz
  simp only [L.v] at *
  by_cases hm : l.length ≤ 100
  · have h1 : ¬ (100 : Int) < (l.length : Int) := by omega
    go_enter Try.func3, Try.ntmps3
    go_wp2_with fail
    rw [← hW]
    clear hW
    refine (sum_any ⟨l, A0, c0⟩ W (HL.out.below HB.out (Nat.le_refl _)) (show l.length ≤ 1000 by omega) HW.out).mono ?_
    rintro e w1 ⟨rfl, hb1⟩
    have HS := Lib.hid (sumS_le l)
    have HT := Lib.hid (sumT_le l)
    have hrs : ∀ w', Below w.heap.size w w' → Calls Try.prog 8 #[.slice A0 l.length c0] w' fun e w'' => e = .returned (.agg #[.int .i64 (sumS l), .int .i64 (sumT l)]) ∧ Below w'.heap.size w' w'' := fun (w' : World) (hb : Below w.heap.size w w') => rsum_any ⟨l, A0, c0⟩ w' (HL.out.below hb (Nat.le_refl _)) (show l.length ≤ 1000 by omega) HW.out
    generalize sumS l = a at *
    generalize sumT l = b at *
    have HRS := Lib.hid hrs
    clear hrs
    obtain ⟨W1, hW1⟩ : ∃ W1, W1 = w1.alloc (.cells #[.int .i64 (a : Int), .int .i64 (b : Int)] 27) := ⟨_, rfl⟩
    have HA := Lib.hid (show Blk W1 w1.heap.size 27 #[.int .i64 (a : Int), .int .i64 (b : Int)] by rw [hW1]; exact Blk.new _ _ _)
    have HB1 := Lib.hid (show Below W.heap.size W W1 by rw [hW1]; exact below_step hb1 (below1 _ _))
    clear hb1
    have hc : ∀ w', Below W1.heap.size W1 w' → _ := fun w' h => HP.out w' (below_step HB1.out h)
    have ha : ∀ w', Below W1.heap.size W1 w' → w'.cell? ⟨w1.heap.size, 0, none⟩ = some (.int .i64 (a : Int)) ∧ w'.cell? ⟨w1.heap.size, 1, none⟩ = some (.int .i64 (b : Int)) := fun w' h => ⟨below_cell h (HA.out.cell 0), below_cell h (HA.out.cell 1)⟩
    have H1 := Lib.hid (Below.refl W1.heap.size W1)
    have h1v := Below.refl W1.heap.size W1
    go_wp2_with fail
    rw [← hW1]
    clear hW1
    go_region_held3 (fun w' => Below W1.heap.size W1 w') (first | exact H1.out | exact below_drew H1.out | (exact below_step (by assumption) (by assumption)) | assumption)
      (first | (go_at_call 8; refine (HRS.out _ (below_step HB.out (below_step HB1.out (by assumption)))).mono ?_; rintro e w2 ⟨rfl, hb2⟩) | (go_at_call 9; refine (fits_any2 _ _ c _).mono ?_; rintro e w2 ⟨rfl, hb2⟩) | (go_at_call 10; refine (rfits_any2 _ _ c _).mono ?_; rintro e w2 ⟨rfl, hb2⟩))
    have HB2 : Hid (Below W1.heap.size W1 _) := Lib.hid (by assumption)
    clear ha hc h1v
    go_wp2
    go_loopw [6] (fun iv wr => ∃ k : Nat, k ≤ l.length ∧ iv = .int .i64 k ∧ Below W1.heap.size W1 wr) (fun i _ => l.length - (intOf i).toNat)
    case atStart => exact ⟨0, Nat.zero_le _, rfl, HB2.out⟩
    case round =>
      obtain ⟨k, hk, rfl, hbel⟩ := hrel
      have HR := Lib.hid (below_step HB.out (below_step HB1.out hbel))
      by_cases hlt : k < l.length
      · have hk0 : (0 : Int) ≤ (k : Int) := by omega
        have hk1 : (k : Int) < (l.length : Int) := by omega
        obtain ⟨g, o, rfl, d0, d1⟩ := ResD.at (HL.out.below HR.out (Nat.le_refl _)) hlt
        simp only at d0 d1
        generalize l[k] = y at *
        have hc : ∀ w', Below wr.heap.size wr w' → _ := fun w' h => HP.out w' (below_step HB1.out (below_step hbel h))
        have hd : ∀ w', Below wr.heap.size wr w' → w'.cell? ⟨g, o + k * 2, none⟩ = some (.int .i64 y.s) ∧ w'.cell? ⟨g, o + k * 2 + 1, none⟩ = some (.int .i64 y.t) := fun w' h => ⟨below_cell h d0, below_cell h d1⟩
        have H2 := Lib.hid (Below.refl wr.heap.size wr)
        have h2v := Below.refl wr.heap.size wr
        have HBEL := Lib.hid hbel
        clear d0 d1 hbel
        go_wp2
        go_region_held3 (fun w' => Below wr.heap.size wr w') (first | exact H2.out | exact below_drew H2.out | (exact below_step (by assumption) (by assumption)) | assumption)
          (first | (go_at_call 9; refine (fits_any2 _ _ c _).mono ?_; rintro e w4 ⟨rfl, hb4⟩) | (go_at_call 10; refine (rfits_any2 _ _ c _).mono ?_; rintro e w4 ⟨rfl, hb4⟩))
        have HB4 : Hid (Below wr.heap.size wr _) := Lib.hid (by assumption)
        clear hc hd h2v
        go_wp2
        go_roundw
        case rel => exact ⟨k + 1, by omega, by go_num, below_step HBEL.out HB4.out⟩
        case measure => simp [intOf]; omega
      · have hk1 : ¬ (k : Int) < (l.length : Int) := by omega
        clear hbel
        go_wp2_with fail
        refine (works_any _).mono ?_
        rintro e w5 ⟨rfl, hb5⟩
        go_wp2
        go_ret
        exact ⟨rfl, below_step HR.out hb5⟩
  · have h1 : (100 : Int) < (l.length : Int) := by omega
    go_enter Try.func3, Try.ntmps3
    go_wp2_with fail
    rw [← hW]
    clear hW
    refine (works_any _).mono ?_
    rintro e w1 ⟨rfl, hb1⟩
    go_wp2
    go_ret
    exact ⟨rfl, below_step HB.out hb1⟩
end Go.Proofs.Ytgfbikknkcaneaa

