/- The law NumtextUints: its walk. -/
import Derived.Test.YtnddfmbgbgiljaaDoorLaw3D
namespace Go.Proofs.YtnddfmbgbgiljaaDoor
open Go.RowKit

theorem rdB_four (w : World) (t : TypeId) (x0 x1 x2 x3 : Int) (c0 c1 c2 c3 : UInt8) (h0 : (c0.toNat : Int) = x0) (h1 : (c1.toNat : Int) = x1) (h2 : (c2.toNat : Int) = x2) (h3 : (c3.toNat : Int) = x3) :
    RdB (w.alloc (.cells #[.int .u8 x0, .int .u8 x1, .int .u8 x2, .int .u8 x3] t)) (some ⟨w.heap.size, 0, none⟩) [c0, c1, c2, c3] := by
  subst h0 h1 h2 h3
  refine .inr ⟨⟨w.heap.size, 0, none⟩, rfl, by simp, ?_⟩
  intro j hj
  match j, hj with
  | 0, _ => simp [Addr.add]
  | 1, _ => simp [Addr.add]
  | 2, _ => simp [Addr.add]
  | 3, _ => simp [Addr.add]
theorem ofNat_toNat (n : Nat) (h : n < 256) : (UInt8.ofNat n).toNat = n := by rw [UInt8.toNat_ofNat']; omega
def four (u : Nat) : List UInt8 := [UInt8.ofNat (u / 16777216), UInt8.ofNat (u / 65536 % 256), UInt8.ofNat (u / 256 % 256), UInt8.ofNat (u % 256)]
theorem hexF_four (u : Nat) (h : u < 4294967296) : hexF 0 (encH (four u)) = some u := by
  rw [hexF_enc]
  simp only [four, List.foldl_cons, List.foldl_nil]
  rw [ofNat_toNat _ (by omega), ofNat_toNat _ (by omega), ofNat_toNat _ (by omega), ofNat_toNat _ (by omega)]
  congr 1; omega
theorem drop_str (s : ByteArray) (k : Nat) : (s.extract k s.size).data.toList = s.data.toList.drop k := by
  rw [ByteArray.data_extract]; simp only [Array.toList_extract, List.extract_eq_take_drop]; exact List.take_of_length_le (by rw [List.length_drop]; exact Nat.le_refl _)
theorem size_rest (t : ByteArray) (k : Nat) : (t.extract k t.size).size = t.size - k := by simp
def strSz : Value → Nat
  | .string s => s.size
  | _ => 0

set_option maxHeartbeats 4000000 in
theorem law_uints (v : Int) (w : World) (hv : (Lit.int .u32 v).wf = true) (ht : Tab w) :
    Calls Tryd.prog 6 #[.int .u32 v] w fun e w' => e = .returned (.bool true) ∧ Below w.heap.size w w' := by
  have HT := Lib.hid ht
  obtain ⟨u, rfl, hu⟩ : ∃ u : Nat, v = u ∧ u < 4294967296 := ⟨v.toNat, by have := wf32 hv; omega, by have := wf32 hv; omega⟩
  have HU := Lib.hid hu
  have HD := Lib.hid (pu32_dec u hu)
  have hdl : (dec u).length ≤ 100 := by rw [dec]; have := decD_len 20 u; omega
  clear hv ht
  go_enter Tryd.func6, Tryd.ntmps6
  go_wp2_with fail
  refine (fmtUint32_any u hu _ HT.out).mono ?_
  rintro e w1 ⟨rfl, hb1⟩
  go_wp2_with fail
  refine (parseUint32_any _ _ (Nat.le_trans hdl (by decide))).mono ?_
  rintro e w2 ⟨he, hb2⟩
  replace he : e = .returned (.tuple #[.int .u32 u, .bool true]) := by
    rw [he]
    show Ending.returned (pu32v (dec u)) = _
    rw [pu32v, HD.out]
  subst he
  have HB2 := Lib.hid (hb1.trans (hb2.mono hb1.size))
  clear hb1 hb2 hdl
  have HE := Lib.hid (hexF_four u hu)
  have HEL := Lib.hid (show (encH (four u)).length = 8 by rw [encH_len]; rfl)
  go_wp2_with fail
  refine (encodeHex_any (some ⟨w2.heap.size, 0, none⟩) 4 (four u) (w2.alloc (.cells #[.int .u8 ((u : Int) / 16777216), .int .u8 ((u : Int) / 65536 % 256), .int .u8 ((u : Int) / 256 % 256), .int .u8 ((u : Int) % 256)] 5)) ?h0 (by decide : (4 : Nat) ≤ 1048576)).mono ?_
  case h0 => exact rdB_four w2 _ _ _ _ _ _ _ _ _ (by rw [ofNat_toNat _ (by omega)]; omega) (by rw [ofNat_toNat _ (by omega)]; omega) (by rw [ofNat_toNat _ (by omega)]; omega) (by rw [ofNat_toNat _ (by omega)]; omega)
  rintro e w3 ⟨rfl, hb3⟩
  have HB3 := Lib.hid ((below_alloc HB2.out _).trans (hb3.mono (below_alloc HB2.out _).size))
  clear hb3
  have hel : (encH (four u)).length ≤ 8 := by rw [HEL.out]; omega
  go_wp2_with fail
  refine (parseUint32_any _ _ ?h).mono ?_
  case h => exact cat_le (by decide) (Nat.le_trans hel (by decide))
  rintro e w4 ⟨he, hb4⟩
  replace he : e = .returned (.tuple #[.int .u32 u, .bool true]) := by
    rw [he, data_cat]
    show Ending.returned (pu32v (48 :: 120 :: encH (four u))) = _
    rw [pu32v, pu32_hex _ (by rw [HEL.out]; omega) hel, HE.out]
  subst he
  have HB4 := Lib.hid (HB3.out.trans (hb4.mono HB3.out.size))
  clear hb4
  go_wp2
  go_loop [5] (fun sv => ∃ s : ByteArray, sv = .string s ∧ 1 ≤ s.size ∧ s.size ≤ 8 ∧ Hid (hexF 0 s.data.toList = some u)) (fun sv => strSz sv)
  case atStart => exact ⟨_, rfl, by show 1 ≤ (encH (four u)).length; rw [HEL.out]; omega, hel, HE⟩
  case round =>
    obtain ⟨s, rfl, hs1, hs8, hs⟩ := hrel
    have hfin : s.data.toList.length ≤ 8 := hs8
    have H1 := Lib.hid (show pu32 (48 :: 120 :: s.data.toList) = some u by rw [pu32_hex _ hs1 hs8, hs.out])
    have HU1 := Lib.hid (show (encH [1, UInt8.ofNat (u / 65536 % 256), UInt8.ofNat (u / 256 % 256), UInt8.ofNat (u % 256)]).length = 8 by rw [encH_len]; rfl)
    have hcase : (1 < s.size ∧ ((s[0].toNat : Int) == 48) = true) ∨ (1 < s.size ∧ ((s[0].toNat : Int) == 48) = false) ∨ ¬ 1 < s.size := by
      by_cases h : 1 < s.size
      · cases hb : ((s[0].toNat : Int) == 48)
        · exact .inr (.inl ⟨h, rfl⟩)
        · exact .inl ⟨h, rfl⟩
      · exact .inr (.inr h)
    rcases hcase with ⟨hlt, hb⟩ | hcase
    · go_wp2
      go_round
      case rel =>
        refine ⟨_, rfl, by rw [size_rest]; omega, by rw [size_rest]; omega, Lib.hid ?_⟩
        rw [drop_str, ← hs.out]
        have e : s.data.toList = s[0] :: s.data.toList.drop 1 := by
          rw [← drop_cons s 0 hs1]; rfl
        have h48 : s[0] = 48 := by
          have := of_decide_eq_true hb
          apply UInt8.toNat_inj.1
          show s[0].toNat = 48
          omega
        conv => rhs; rw [e, h48, hexF_zero]
      case measure => simp [strSz]; omega
    · rcases hcase with ⟨hlt, hb⟩ | hlt
      all_goals
        go_wp2_with fail
        refine (parseUint32_any _ _ ?h).mono ?_
        case h => exact cat_le (by decide) (Nat.le_trans hs8 (by decide))
        rintro e w5 ⟨he, hb5⟩
        replace he : e = .returned (.tuple #[.int .u32 u, .bool true]) := by
          rw [he, data_cat]
          show Ending.returned (pu32v (48 :: 120 :: s.data.toList)) = _
          rw [pu32v, H1.out]
        subst he
        have HB5 := Lib.hid (HB4.out.trans (hb5.mono HB4.out.size))
        clear hb5
        go_wp2_with fail
        refine (encodeHex_any (some ⟨w5.heap.size, 0, none⟩) 4 [1, UInt8.ofNat (u / 65536 % 256), UInt8.ofNat (u / 256 % 256), UInt8.ofNat (u % 256)] (w5.alloc (.cells #[.int .u8 1, .int .u8 ((u : Int) / 65536 % 256), .int .u8 ((u : Int) / 256 % 256), .int .u8 ((u : Int) % 256)] 5)) ?h0 (by decide : (4 : Nat) ≤ 1048576)).mono ?_
        case h0 => exact rdB_four w5 _ _ _ _ _ _ _ _ _ rfl (by rw [ofNat_toNat _ (by omega)]; omega) (by rw [ofNat_toNat _ (by omega)]; omega) (by rw [ofNat_toNat _ (by omega)]; omega)
        rintro e w6 ⟨rfl, hb6⟩
        have HB6 := Lib.hid ((below_alloc HB5.out _).trans (hb6.mono (below_alloc HB5.out _).size))
        clear hb6
        have hel2 : (encH [1, UInt8.ofNat (u / 65536 % 256), UInt8.ofNat (u / 256 % 256), UInt8.ofNat (u % 256)]).length ≤ 8 := by rw [HU1.out]; omega
        go_wp2_with fail
        refine (parseUint32_any _ _ ?h).mono ?_
        case h => exact cat_le (by decide) (Nat.le_trans hel2 (by decide))
        rintro e w7 ⟨he, hb7⟩
        replace he : e = .returned (.tuple #[.int .u32 0, .bool false]) := by
          rw [he, data_cat]
          show Ending.returned (pu32v (48 :: 120 :: 48 :: encH [1, UInt8.ofNat (u / 65536 % 256), UInt8.ofNat (u / 256 % 256), UInt8.ofNat (u % 256)])) = _
          rw [pu32v, pu32_long _ (by rw [List.length_cons, HU1.out]; omega)]
        subst he
        have HB7 := Lib.hid (HB6.out.trans (hb7.mono HB6.out.size))
        clear hb7 hel2
        go_wp2_with fail
        refine (works_any _ (HT.out.below HB7.out)).mono ?_
        rintro e w8 ⟨rfl, hb8⟩
        go_wp2
        go_ret
        exact ⟨rfl, HB7.out.trans (hb8.mono HB7.out.size)⟩
end Go.Proofs.YtnddfmbgbgiljaaDoor
