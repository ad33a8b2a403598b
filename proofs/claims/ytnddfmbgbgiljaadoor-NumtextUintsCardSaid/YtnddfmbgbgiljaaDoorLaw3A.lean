/- The law NumtextFormats: its walk. -/
import Derived.Test.YtnddfmbgbgiljaaDoorNumW
namespace Go.Proofs.YtnddfmbgbgiljaaDoor
open Go.RowKit

theorem wf64 {n : Int} (h : (Lit.int .i64 n).wf = true) : -9223372036854775808 ≤ n ∧ n ≤ 9223372036854775807 := by
  simp only [Lit.wf, Bool.and_eq_true, decide_eq_true_eq] at h
  have h1 : IntKind.i64.min = -9223372036854775808 := by decide
  have h2 : IntKind.i64.max = 9223372036854775807 := by decide
  omega
theorem wf32 {n : Int} (h : (Lit.int .u32 n).wf = true) : 0 ≤ n ∧ n < 4294967296 := by
  simp only [Lit.wf, Bool.and_eq_true, decide_eq_true_eq] at h
  have h1 : IntKind.u32.min = 0 := by decide
  have h2 : IntKind.u32.max = 4294967295 := by decide
  omega

set_option maxHeartbeats 1000000 in
theorem law_formats (n v : Int) (w : World) (hn : (Lit.int .i64 n).wf = true) (hv : (Lit.int .u32 v).wf = true) (ht : Tab w) :
    Calls Tryd.prog 3 #[.int .i64 n, .int .u32 v] w fun e w' => e = .returned (.bool true) ∧ Below w.heap.size w w' := by
  have HN := Lib.hid (wf64 hn)
  obtain ⟨u, rfl, hu⟩ : ∃ u : Nat, v = u ∧ u < 4294967296 := ⟨v.toNat, by have := wf32 hv; omega, by have := wf32 hv; omega⟩
  have HT := Lib.hid ht
  clear hn hv ht
  go_enter Tryd.func3, Tryd.ntmps3
  go_wp2_with fail
  refine (fmtInt_any n HN.out.1 HN.out.2 _ HT.out).mono ?_
  rintro e w1 ⟨rfl, hb1⟩
  go_wp2_with fail
  refine (rfmtInt_any n HN.out.1 HN.out.2 _).mono ?_
  rintro e w2 ⟨rfl, hb2⟩
  have H2 := Lib.hid (hb1.trans (hb2.mono hb1.size))
  clear hb1 hb2
  go_wp2_with fail
  refine (fmtUint32_any u hu _ (HT.out.below H2.out)).mono ?_
  rintro e w3 ⟨rfl, hb3⟩
  go_wp2_with fail
  refine (rfmtUint32_any u hu _).mono ?_
  rintro e w4 ⟨rfl, hb4⟩
  have H4 := Lib.hid (H2.out.trans ((hb3.mono H2.out.size).trans (hb4.mono (Nat.le_trans H2.out.size hb3.size))))
  clear hb3 hb4
  go_wp2_with fail
  refine (works_any _ (HT.out.below H4.out)).mono ?_
  rintro e w5 ⟨rfl, hb5⟩
  go_wp2
  go_ret
  exact ⟨rfl, H4.out.trans (hb5.mono H4.out.size)⟩

end Go.Proofs.YtnddfmbgbgiljaaDoor
