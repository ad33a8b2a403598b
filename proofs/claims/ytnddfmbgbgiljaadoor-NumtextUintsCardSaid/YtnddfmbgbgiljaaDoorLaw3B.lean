/- The laws NumtextParses and NumtextCanonical: their walks. -/
import Derived.Test.YtnddfmbgbgiljaaDoorLaw3A
import Derived.Test.YtnddfmbgbgiljaaDoorNumP
namespace Go.Proofs.YtnddfmbgbgiljaaDoor
open Go.RowKit

theorem pintV_form (l : List UInt8) : ∃ n b, pintV (pint l) = .tuple #[.int .i64 n, .bool b] := by
  rcases pint l with _ | n
  · exact ⟨0, false, rfl⟩
  · exact ⟨n, true, rfl⟩
theorem u32v_eq (l : List UInt8) : u32v (pu32 l) = pu32v l := by
  unfold u32v pu32v; rcases pu32 l with _ | v <;> rfl
theorem pu32v_form (l : List UInt8) : ∃ n b, pu32v l = .tuple #[.int .u32 n, .bool b] := by
  unfold pu32v
  rcases pu32 l with _ | v
  · exact ⟨0, false, rfl⟩
  · exact ⟨v, true, rfl⟩

set_option maxHeartbeats 4000000 in
theorem law_parses (s : ByteArray) (w : World) (_hm : s.size ≤ maxLen) (ht : Tab w) :
    Calls Tryd.prog 4 #[.string s] w fun e w' => e = .returned (.bool true) ∧ Below w.heap.size w w' := by
  have HT := Lib.hid ht
  clear ht
  by_cases hl : 1000 < s.size
  · go_enter Tryd.func4, Tryd.ntmps4
    go_wp2_with fail
    refine (works_any _ HT.out).mono ?_
    rintro e w1 ⟨rfl, hb1⟩
    go_wp2
    go_ret
    exact ⟨rfl, hb1⟩
  · have hs : s.size ≤ 1048576 := by omega
    obtain ⟨n1, b1, e1⟩ := pintV_form s.data.toList
    obtain ⟨n2, b2, e2⟩ := pu32v_form s.data.toList
    go_enter Tryd.func4, Tryd.ntmps4
    go_wp2_with fail
    refine (parseInt_any s _ hs).mono ?_
    rintro e w1 ⟨rfl, hb1⟩
    rw [e1]
    go_wp2_with fail
    refine (rparseInt_any s _ hs).mono ?_
    rintro e w2 ⟨rfl, hb2⟩
    rw [rpint_eq, e1]
    go_wp2_with fail
    refine (parseUint32_any s _ hs).mono ?_
    rintro e w3 ⟨rfl, hb3⟩
    rw [e2]
    go_wp2_with fail
    refine (rparseUint32_any s _ hs).mono ?_
    rintro e w4 ⟨rfl, hb4⟩
    rw [rpu32_eq, u32v_eq, e2]
    have HB4 := Lib.hid (hb1.trans ((hb2.mono hb1.size).trans ((hb3.mono (Nat.le_trans hb1.size hb2.size)).trans (hb4.mono (Nat.le_trans hb1.size (Nat.le_trans hb2.size hb3.size))))))
    clear hb1 hb2 hb3 hb4 e1 e2
    go_wp2_with fail
    refine (decodeHex_any s _ hs).mono ?_
    rintro e w5 ⟨A, c, rfl, hown5, hb5⟩
    have HO5 := Lib.hid hown5
    have HB5 := Lib.hid (HB4.out.trans (hb5.mono HB4.out.size))
    clear hown5 hb5
    go_wp2_with fail
    refine (rdecodeHex_any s _ hs).mono ?_
    rintro e w6 ⟨A', c', rfl, hown6, hb6⟩
    have HB6 := Lib.hid (HB5.out.trans (hb6.mono HB5.out.size))
    have hcv : (convert 31 9 (.slice A (dhOut s.data.toList).length c)).run Tryd.prog w6 = .ok (.string ⟨(dhOut s.data.toList).toArray⟩) w6 := conv_own (own_below HO5.out hb6)
    have hcv2 : (convert 31 9 (.slice A' (dhOut s.data.toList).length c')).run Tryd.prog w6 = .ok (.string ⟨(dhOut s.data.toList).toArray⟩) w6 := conv_own hown6
    clear hown6 hb6
    go_wp2_with fail
    refine (works_any _ (HT.out.below HB6.out)).mono ?_
    rintro e w7 ⟨rfl, hb7⟩
    go_wp2
    go_ret
    exact ⟨rfl, HB6.out.trans (hb7.mono HB6.out.size)⟩

theorem str_of (s : ByteArray) : (⟨s.data.toList.toArray⟩ : ByteArray) = s := by cases s; rfl

set_option maxHeartbeats 4000000 in
theorem law_canonical (s : ByteArray) (w : World) (_hm : s.size ≤ maxLen) (ht : Tab w) :
    Calls Tryd.prog 8 #[.string s] w fun e w' => e = .returned (.bool true) ∧ Below w.heap.size w w' := by
  have HT := Lib.hid ht
  clear ht
  by_cases hl : 1000 < s.size
  · go_enter Tryd.func8, Tryd.ntmps8
    go_wp2_with fail
    refine (works_any _ HT.out).mono ?_
    rintro e w1 ⟨rfl, hb1⟩
    go_wp2
    go_ret
    exact ⟨rfl, hb1⟩
  · have hs : s.size ≤ 1048576 := by omega
    -- the second half of the test, whatever the first
    have hhex : ∀ b, hexD [] s.data.toList = some b → encH b = s.data.toList := by
      intro b hb
      obtain ⟨r, e, hr⟩ := encH_hexD s.data.toList.length s.data.toList [] b (Nat.le_refl _) hb
      rw [List.nil_append] at e; rw [e, hr]
    have hlen : s.data.toList.length = s.size := rfl
    rcases hp : pint s.data.toList with _ | n
    · go_enter Tryd.func8, Tryd.ntmps8
      go_wp2_with fail
      refine (parseInt_any s _ hs).mono ?_
      rintro e w1 ⟨rfl, hb1⟩
      rw [hp, show pintV none = .tuple #[.int .i64 0, .bool false] from rfl]
      have HB1 := Lib.hid hb1
      clear hb1
      go_wp2_with fail
      refine (decodeHex_any s _ hs).mono ?_
      rintro e w5 ⟨A, c, he, hown5, hb5⟩
      have HB5 := Lib.hid (HB1.out.trans (hb5.mono HB1.out.size))
      clear hb5
      rcases hx : hexD [] s.data.toList with _ | b
      · rw [show dhOut s.data.toList = [] by rw [dhOut, hx]; rfl, show dhOk s.data.toList = false by rw [dhOk, hx]; rfl] at he
        subst he
        clear hown5
        go_wp2_with fail
        refine (works_any _ (HT.out.below HB5.out)).mono ?_
        rintro e w7 ⟨rfl, hb7⟩
        go_wp2
        go_ret
        exact ⟨rfl, HB5.out.trans (hb7.mono HB5.out.size)⟩
      · have hb := hhex b hx
        rw [show dhOut s.data.toList = b by rw [dhOut, hx]; rfl, show dhOk s.data.toList = true by rw [dhOk, hx]; rfl] at he
        rw [show dhOut s.data.toList = b by rw [dhOut, hx]; rfl] at hown5
        subst he
        have hbl : b.length ≤ 1048576 := by
          have := encH_len b; rw [hb] at this; omega
        have HO := Lib.hid hown5
        have HE := Lib.hid hb
        clear hown5 hb hhex hx
        go_wp2_with fail
        refine (encodeHex_any A c b _ (RdB.of_own HO.out) hbl).mono ?_
        rintro e w6 ⟨rfl, hb6⟩
        rw [HE.out, str_of]
        have HB6 := Lib.hid (HB5.out.trans (hb6.mono HB5.out.size))
        clear hb6
        go_wp2_with fail
        refine (works_any _ (HT.out.below HB6.out)).mono ?_
        rintro e w7 ⟨rfl, hb7⟩
        go_wp2
        go_ret
        exact ⟨rfl, HB6.out.trans (hb7.mono HB6.out.size)⟩
    · obtain ⟨hi, hn0, hn1⟩ := pint_itoa hp
      have HI := Lib.hid hi
      go_enter Tryd.func8, Tryd.ntmps8
      go_wp2_with fail
      refine (parseInt_any s _ hs).mono ?_
      rintro e w1 ⟨rfl, hb1⟩
      rw [hp, show pintV (some n) = .tuple #[.int .i64 n, .bool true] from rfl]
      have HB1 := Lib.hid hb1
      clear hb1 hi hp
      go_wp2_with fail
      refine (decodeHex_any s _ hs).mono ?_
      rintro e w5 ⟨A, c, he, hown5, hb5⟩
      have HB5 := Lib.hid (HB1.out.trans (hb5.mono HB1.out.size))
      clear hb5
      rcases hx : hexD [] s.data.toList with _ | b
      · rw [show dhOut s.data.toList = [] by rw [dhOut, hx]; rfl, show dhOk s.data.toList = false by rw [dhOk, hx]; rfl] at he
        subst he
        clear hown5
        go_wp2_with fail
        refine (fmtInt_any n hn0 hn1 _ (HT.out.below HB5.out)).mono ?_
        rintro e w6 ⟨rfl, hb6⟩
        rw [HI.out, str_of]
        have HB6 := Lib.hid (HB5.out.trans (hb6.mono HB5.out.size))
        clear hb6
        go_wp2_with fail
        refine (works_any _ (HT.out.below HB6.out)).mono ?_
        rintro e w7 ⟨rfl, hb7⟩
        go_wp2
        go_ret
        exact ⟨rfl, HB6.out.trans (hb7.mono HB6.out.size)⟩
      · have hb := hhex b hx
        rw [show dhOut s.data.toList = b by rw [dhOut, hx]; rfl, show dhOk s.data.toList = true by rw [dhOk, hx]; rfl] at he
        rw [show dhOut s.data.toList = b by rw [dhOut, hx]; rfl] at hown5
        subst he
        have hbl : b.length ≤ 1048576 := by
          have := encH_len b; rw [hb] at this; omega
        have HO := Lib.hid hown5
        have HE := Lib.hid hb
        clear hown5 hb hhex hx
        go_wp2_with fail
        refine (fmtInt_any n hn0 hn1 _ (HT.out.below HB5.out)).mono ?_
        rintro e w6 ⟨rfl, hb6⟩
        rw [HI.out, str_of]
        have HB6 := Lib.hid (HB5.out.trans (hb6.mono HB5.out.size))
        have HR := Lib.hid ((RdB.of_own HO.out).below hb6 (Nat.le_refl _))
        clear hb6
        go_wp2_with fail
        refine (encodeHex_any A c b _ HR.out hbl).mono ?_
        rintro e w6' ⟨rfl, hb6⟩
        rw [HE.out, str_of]
        have HB7 := Lib.hid (HB6.out.trans (hb6.mono HB6.out.size))
        clear hb6
        go_wp2_with fail
        refine (works_any _ (HT.out.below HB7.out)).mono ?_
        rintro e w7 ⟨rfl, hb7⟩
        go_wp2
        go_ret
        exact ⟨rfl, HB7.out.trans (hb7.mono HB7.out.size)⟩
end Go.Proofs.YtnddfmbgbgiljaaDoor
