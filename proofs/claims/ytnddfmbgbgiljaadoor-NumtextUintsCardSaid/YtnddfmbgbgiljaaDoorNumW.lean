/- The walk of the law chapter's examples (works). 'htab': the library's table of powers of ten. -/
import Derived.Test.YtnddfmbgbgiljaaDoorNumH
namespace Go.Proofs.YtnddfmbgbgiljaaDoor
open Go.RowKit

abbrev Tab (w : World) : Prop := Lib.TabIs Tryd.prog w "internal/strconv.uint64pow10" .u64 Lib.pow10Tab
theorem Tab.below {w w' : World} (h : Tab w) (hb : Below w.heap.size w w') : Tab w' := by
  unfold Tab Lib.TabIs World.var? at *
  cases hg : Tryd.prog.globalNamed "internal/strconv.uint64pow10" with
  | none => simp [hg] at h
  | some g =>
    simp only [hg, Option.bind_some] at h ⊢
    have hlt : g < w.heap.size := by
      rcases Nat.lt_or_ge g w.heap.size with h' | h'
      · exact h'
      · rw [Array.getElem?_eq_none h'] at h; simp at h
    rw [hb.block g hlt]
    exact h
theorem RdB.of_own {w : World} {base n c : Nat} {A : Option Addr} {l : List UInt8} (h : w.ownsRow base 5 1 (.slice A n c) n (byteVals l)) : RdB w A l := by
  have hl : l.length = n := by
    have := h.1
    rw [byteVals_len] at this; omega
  rcases Nat.eq_zero_or_pos n with h0 | h0
  · exact .inl (List.eq_nil_of_length_eq_zero (by omega))
  · obtain ⟨g, cap, hv, _, hlt⟩ := h.form h0
    have hA : A = some ⟨g, 0, none⟩ := by injection hv
    subst hA
    refine .inr ⟨⟨g, 0, none⟩, rfl, hlt, fun j hj => ?_⟩
    have e : (⟨g, 0, none⟩ : Addr).add j = ⟨g, j, none⟩ := by unfold Addr.add; split <;> simp_all
    rw [e, h.cellAt j (by omega)]
    simp [byteVals, hj]

theorem ex1 : pint [49, 50, 51, 52, 53, 54, 55, 56, 57] = some 123456789 := by decide +kernel
theorem ex2 : pint [49, 50, 51, 52, 53, 54, 55, 56, 57, 48] = none := by decide +kernel
theorem ex3 : pu32v [48, 120, 102, 102, 102, 102, 102, 102, 102, 102] = .tuple #[.int .u32 4294967295, .bool true] := by kernel_rfl
theorem ex4 : pu32v [48, 120, 70, 70] = .tuple #[.int .u32 0, .bool false] := by kernel_rfl
theorem ex5 : dhOut [48, 97, 102, 102] = [10, 255] := by decide +kernel
theorem ex5' : dhOk [48, 97, 102, 102] = true := by decide +kernel
theorem ex6 : Lib.itoa (-5) = [45, 53] := by rw [itoa_neg _ (by omega) (by omega)]; decide +kernel
theorem ex7 : dec 70 = [55, 48] := by decide +kernel
theorem ex8 : encH [10, 255] = [48, 97, 102, 102] := by decide +kernel

set_option maxHeartbeats 2000000 in
theorem works_any (w : World) (ht : Tab w) : Calls Tryd.prog 13 #[] w fun e w' => e = .returned (.bool true) ∧ Below w.heap.size w w' := by
  have HT := Lib.hid ht
  clear ht
  go_enter Tryd.func13, Tryd.ntmps13
  go_wp2_with fail
  refine (parseInt_any ⟨#[49, 50, 51, 52, 53, 54, 55, 56, 57]⟩ _ (by decide)).mono ?_
  rintro e w1 ⟨rfl, hb1⟩
  have e1 : pintV (pint (⟨#[49, 50, 51, 52, 53, 54, 55, 56, 57]⟩ : ByteArray).data.toList) = .tuple #[.int .i64 123456789, .bool true] := by show pintV (pint [49, 50, 51, 52, 53, 54, 55, 56, 57]) = _; rw [ex1]; rfl
  rw [e1]
  clear e1
  go_wp2_with fail
  refine (parseInt_any ⟨#[49, 50, 51, 52, 53, 54, 55, 56, 57, 48]⟩ _ (by decide)).mono ?_
  rintro e w2 ⟨rfl, hb2⟩
  have e1 : pintV (pint (⟨#[49, 50, 51, 52, 53, 54, 55, 56, 57, 48]⟩ : ByteArray).data.toList) = .tuple #[.int .i64 0, .bool false] := by show pintV (pint [49, 50, 51, 52, 53, 54, 55, 56, 57, 48]) = _; rw [ex2]; rfl
  rw [e1]
  clear e1
  go_wp2_with fail
  refine (parseUint32_any ⟨#[48, 120, 102, 102, 102, 102, 102, 102, 102, 102]⟩ _ (by decide)).mono ?_
  rintro e w3 ⟨rfl, hb3⟩
  have e1 : pu32v (⟨#[48, 120, 102, 102, 102, 102, 102, 102, 102, 102]⟩ : ByteArray).data.toList = .tuple #[.int .u32 4294967295, .bool true] := ex3
  rw [e1]
  clear e1
  go_wp2_with fail
  refine (parseUint32_any ⟨#[48, 120, 70, 70]⟩ _ (by decide)).mono ?_
  rintro e w4 ⟨rfl, hb4⟩
  have e1 : pu32v (⟨#[48, 120, 70, 70]⟩ : ByteArray).data.toList = .tuple #[.int .u32 0, .bool false] := ex4
  rw [e1]
  clear e1
  have HB4 := Lib.hid (hb1.trans ((hb2.mono hb1.size).trans ((hb3.mono (Nat.le_trans hb1.size hb2.size)).trans (hb4.mono (Nat.le_trans hb1.size (Nat.le_trans hb2.size hb3.size))))))
  clear hb1 hb2 hb3 hb4
  go_wp2_with fail
  refine (decodeHex_any ⟨#[48, 97, 102, 102]⟩ _ (by decide)).mono ?_
  rintro e w5 ⟨A, c, he, hown, hb5⟩
  have e1 : dhOut (⟨#[48, 97, 102, 102]⟩ : ByteArray).data.toList = [10, 255] := ex5
  have e2 : dhOk (⟨#[48, 97, 102, 102]⟩ : ByteArray).data.toList = true := ex5'
  rw [e1, e2] at he
  rw [e1] at hown
  subst he
  clear e1 e2
  have HB5 := Lib.hid (HB4.out.trans (hb5.mono HB4.out.size))
  have HO := Lib.hid hown
  clear hown hb5
  go_wp2_with fail
  refine (fmtInt_any (-5) (by omega) (by omega) _ (HT.out.below HB5.out)).mono ?_
  rintro e w6 ⟨rfl, hb6⟩
  rw [ex6]
  have HO6 := Lib.hid (own_below HO.out hb6)
  have HB6 := Lib.hid (HB5.out.trans (hb6.mono HB5.out.size))
  clear hb6
  go_wp2_with fail
  refine (fmtUint32_any 70 (by omega) _ (HT.out.below HB6.out)).mono ?_
  rintro e w7 ⟨rfl, hb7⟩
  rw [ex7]
  have HO7 := Lib.hid (own_below HO6.out hb7)
  have HB7 := Lib.hid (HB6.out.trans (hb7.mono HB6.out.size))
  clear hb7
  have hcv : (convert 31 9 (.slice A 2 c)).run Tryd.prog w7 = .ok (.string ⟨#[10, 255]⟩) w7 := conv_own (l := [10, 255]) HO7.out
  have hcv2 : (convert 31 9 (.slice (some ⟨w7.heap.size, 0, none⟩) 2 2)).run Tryd.prog (w7.alloc (.cells #[.int .u8 10, .int .u8 255] 5)) = .ok (.string ⟨#[10, 255]⟩) (w7.alloc (.cells #[.int .u8 10, .int .u8 255] 5)) := by
    refine run_convert_bytes_back (P := Tryd.prog) _ 31 9 5 ⟨w7.heap.size, 0, none⟩ 2 [10, 255] Tryd.underlying31 Tryd.underlying5 Tryd.underlying9 ?_
    intro j hj
    match j, hj with
    | 0, _ => simp [Addr.add]
    | 1, _ => simp [Addr.add]
  go_wp2_with fail
  refine (encodeHex_any A c [10, 255] (w7.alloc (.cells #[.int .u8 10, .int .u8 255] 5)) ((RdB.of_own HO7.out).below ((Below.refl w7.heap.size w7).alloc (Nat.le_refl _) _) (Nat.le_refl _)) (by decide)).mono ?_
  rintro e w8 ⟨rfl, hb8⟩
  rw [ex8]
  have HB8 := Lib.hid ((below_alloc HB7.out (.cells #[.int .u8 10, .int .u8 255] 5)).trans (hb8.mono (below_alloc HB7.out (.cells #[.int .u8 10, .int .u8 255] 5)).size))
  clear hb8
  go_wp2
  go_ret
  exact ⟨rfl, HB8.out⟩

end Go.Proofs.YtnddfmbgbgiljaaDoor
