/- The law NumtextInts: its walk. -/
import Derived.Test.YtnddfmbgbgiljaaDoorLaw3B
namespace Go.Proofs.YtnddfmbgbgiljaaDoor
open Go.RowKit

theorem data_cat (a b : ByteArray) : (a ++ b).data.toList = a.data.toList ++ b.data.toList := by
  rw [ByteArray.data_append, Array.toList_append]
theorem size_cat (a b : ByteArray) : (a ++ b).size = a.size + b.size := ByteArray.size_append

theorem cat_le {a b : ByteArray} (h : a.size ≤ 100) (h2 : b.size ≤ 100) : (a ++ b).size ≤ 1048576 := by rw [size_cat]; omega
theorem itoa_len (n : Int) (h0 : -9223372036854775808 ≤ n) (h1 : n ≤ 9223372036854775807) : (Lib.itoa n).length ≤ 100 := by
  by_cases h : 0 ≤ n
  · rw [itoa_nonneg n h h1, dec]; have := decD_len 20 n.toNat; omega
  · rw [itoa_neg n (by omega) h0, dec, List.length_cons]; have := decD_len 20 n.natAbs; omega

set_option maxHeartbeats 4000000 in
theorem law_ints (n : Int) (w : World) (hn : (Lit.int .i64 n).wf = true) (ht : Tab w) :
    Calls Tryd.prog 5 #[.int .i64 n] w fun e w' => e = .returned (.bool true) ∧ Below w.heap.size w w' := by
  have HN := Lib.hid (wf64 hn)
  have HT := Lib.hid ht
  obtain ⟨c, r, hcr⟩ := itoa_cons n HN.out.1 HN.out.2
  have hlen := itoa_len n HN.out.1 HN.out.2
  have hpi := pint_of n HN.out.1 HN.out.2
  have HZ := Lib.hid (show pint (48 :: Lib.itoa n) = none by rw [hcr]; exact pint_zero c r)
  have HP := Lib.hid (show pint (43 :: Lib.itoa n) = none by rw [hcr]; exact pint_plus c r)
  have HS := Lib.hid (show pint (Lib.itoa n ++ [32]) = none by rw [hcr]; exact pint_space c r)
  have HL := Lib.hid hlen
  have HPI := Lib.hid hpi
  clear hn ht hcr hpi
  by_cases hs : -999999999 ≤ n ∧ n ≤ 999999999
  · have HPI2 := Lib.hid (show pintV (pint (Lib.itoa n)) = .tuple #[.int .i64 n, .bool true] by rw [HPI.out, if_pos hs]; rfl)
    clear HPI
    go_enter Tryd.func5, Tryd.ntmps5
    go_wp2_with fail
    refine (fmtInt_any n HN.out.1 HN.out.2 _ HT.out).mono ?_
    rintro e w1 ⟨rfl, hb1⟩
    go_wp2_with fail
    refine (parseInt_any _ _ (Nat.le_trans HL.out (by decide))).mono ?_
    rintro e w2 ⟨he, hb2⟩
    replace he : e = .returned (.tuple #[.int .i64 n, .bool true]) := by rw [he]; exact congrArg _ HPI2.out
    subst he
    go_wp2_with fail
    refine (parseInt_any _ _ ?h).mono ?_
    case h => exact cat_le (by decide) HL.out
    rintro e w3 ⟨he, hb3⟩
    replace he : e = .returned (.tuple #[.int .i64 0, .bool false]) := by rw [he, data_cat]; exact congrArg (fun o => Ending.returned (pintV o)) HZ.out
    subst he
    go_wp2_with fail
    refine (parseInt_any _ _ ?h).mono ?_
    case h => exact cat_le (by decide) HL.out
    rintro e w4 ⟨he, hb4⟩
    replace he : e = .returned (.tuple #[.int .i64 0, .bool false]) := by rw [he, data_cat]; exact congrArg (fun o => Ending.returned (pintV o)) HP.out
    subst he
    go_wp2_with fail
    refine (parseInt_any _ _ ?h).mono ?_
    case h => exact cat_le HL.out (by decide)
    rintro e w5 ⟨he, hb5⟩
    replace he : e = .returned (.tuple #[.int .i64 0, .bool false]) := by rw [he, data_cat]; exact congrArg (fun o => Ending.returned (pintV o)) HS.out
    subst he
    have HB4 := Lib.hid (hb1.trans ((hb2.mono hb1.size).trans ((hb3.mono (Nat.le_trans hb1.size hb2.size)).trans (hb4.mono (Nat.le_trans hb1.size (Nat.le_trans hb2.size hb3.size))))))
    have HB5 := Lib.hid (HB4.out.trans (hb5.mono HB4.out.size))
    clear hb1 hb2 hb3 hb4 hb5
    go_wp2_with fail
    refine (works_any _ (HT.out.below HB5.out)).mono ?_
    rintro e w7 ⟨rfl, hb7⟩
    go_wp2
    go_ret
    exact ⟨rfl, HB5.out.trans (hb7.mono HB5.out.size)⟩
  · have HPI2 := Lib.hid (show pintV (pint (Lib.itoa n)) = .tuple #[.int .i64 0, .bool false] by rw [HPI.out, if_neg hs]; rfl)
    clear HPI
    have hs1 : (decide (-999999999 ≤ n) && decide (n ≤ 999999999)) = false := by
      rw [← Bool.decide_and]; exact decide_eq_false hs
    rcases (show n < -999999999 ∨ (-999999999 ≤ n ∧ 999999999 < n) by omega) with hq | hq
    all_goals
      clear hs hs1
      go_enter Tryd.func5, Tryd.ntmps5
      go_wp2_with fail
      refine (fmtInt_any n HN.out.1 HN.out.2 _ HT.out).mono ?_
      rintro e w1 ⟨rfl, hb1⟩
      go_wp2_with fail
      refine (parseInt_any _ _ (Nat.le_trans HL.out (by decide))).mono ?_
      rintro e w2 ⟨he, hb2⟩
      replace he : e = .returned (.tuple #[.int .i64 0, .bool false]) := by rw [he]; exact congrArg _ HPI2.out
      subst he
      go_wp2_with fail
      refine (parseInt_any _ _ ?h).mono ?_
      case h => exact cat_le (by decide) HL.out
      rintro e w3 ⟨he, hb3⟩
      replace he : e = .returned (.tuple #[.int .i64 0, .bool false]) := by rw [he, data_cat]; exact congrArg (fun o => Ending.returned (pintV o)) HZ.out
      subst he
      go_wp2_with fail
      refine (parseInt_any _ _ ?h).mono ?_
      case h => exact cat_le (by decide) HL.out
      rintro e w4 ⟨he, hb4⟩
      replace he : e = .returned (.tuple #[.int .i64 0, .bool false]) := by rw [he, data_cat]; exact congrArg (fun o => Ending.returned (pintV o)) HP.out
      subst he
      go_wp2_with fail
      refine (parseInt_any _ _ ?h).mono ?_
      case h => exact cat_le HL.out (by decide)
      rintro e w5 ⟨he, hb5⟩
      replace he : e = .returned (.tuple #[.int .i64 0, .bool false]) := by rw [he, data_cat]; exact congrArg (fun o => Ending.returned (pintV o)) HS.out
      subst he
      have HB4 := Lib.hid (hb1.trans ((hb2.mono hb1.size).trans ((hb3.mono (Nat.le_trans hb1.size hb2.size)).trans (hb4.mono (Nat.le_trans hb1.size (Nat.le_trans hb2.size hb3.size))))))
      have HB5 := Lib.hid (HB4.out.trans (hb5.mono HB4.out.size))
      clear hb1 hb2 hb3 hb4 hb5
      go_wp2_with fail
      refine (works_any _ (HT.out.below HB5.out)).mono ?_
      rintro e w7 ⟨rfl, hb7⟩
      go_wp2
      go_ret
      exact ⟨rfl, HB5.out.trans (hb7.mono HB5.out.size)⟩
end Go.Proofs.YtnddfmbgbgiljaaDoor
