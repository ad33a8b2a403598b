/- The law NumtextHex: its walk. -/
import Derived.Test.YtnddfmbgbgiljaaDoorLaw3C
namespace Go.Proofs.YtnddfmbgbgiljaaDoor
open Go.RowKit

theorem bytes_of (zs : List Int) (h : ∀ n ∈ zs, (Lit.int .u8 n).wf = true) : ∃ l : List UInt8, l.length = zs.length ∧ ∀ j (hj : j < l.length), zs.getD j 0 = (l[j].toNat : Int) := by
  induction zs with
  | nil => exact ⟨[], rfl, fun j hj => by simp at hj⟩
  | cons z zs ih =>
    obtain ⟨l, hl, hc⟩ := ih (fun n hn => h n (List.mem_cons_of_mem _ hn))
    have hz := h z (List.mem_cons_self ..)
    simp only [Lit.wf, Bool.and_eq_true, decide_eq_true_eq] at hz
    have h1 : IntKind.u8.min = 0 := by decide
    have h2 : IntKind.u8.max = 255 := by decide
    refine ⟨UInt8.ofNat z.toNat :: l, by simp [hl], fun j hj => ?_⟩
    match j with
    | 0 =>
      simp only [List.getD_cons_zero, List.getElem_cons_zero]
      rw [UInt8.toNat_ofNat']; omega
    | j + 1 => simpa using hc j (by simpa using hj)
theorem rdB_of_row {w : World} {a : Option Addr} {len cap : Nat} {zs : List Int}
    (h : (a = none ∧ len = 0 ∧ cap = 0 ∧ zs = []) ∨
      ∃ x, a = some x ∧ len ≤ cap ∧ cap ≤ maxLen ∧ zs.length = cap ∧ (∀ i, i < zs.length → w.cell? (x.add i) = some (.int .u8 (zs.getD i 0))) ∧ ∀ n ∈ zs, (Lit.int .u8 n).wf = true) :
    ∃ l : List UInt8, l.length = len ∧ RdB w a l := by
  rcases h with ⟨rfl, rfl, rfl, rfl⟩ | ⟨x, rfl, hl, hm, hz, hc, hw⟩
  · exact ⟨[], rfl, .inl rfl⟩
  · obtain ⟨l, e, hl2⟩ := bytes_of zs hw
    rcases Nat.eq_zero_or_pos len with h0 | h0
    · subst h0; exact ⟨[], rfl, .inl rfl⟩
    · refine ⟨l.take len, by rw [List.length_take]; omega, .inr ⟨x, rfl, ?_, fun j hj => ?_⟩⟩
      · have := hc 0 (by omega)
        rcases Nat.lt_or_ge x.block w.heap.size with hlt | hge
        · exact hlt
        · exfalso
          have hb : (x.add 0).block = x.block := add_block x 0
          simp only [World.cell?, hb] at this
          rw [Array.getElem?_eq_none hge] at this
          simp at this
      · rw [List.length_take] at hj
        rw [hc j (by omega), hl2 j (by omega), List.getElem_take]
theorem conv_rd {w : World} {A : Option Addr} {l : List UInt8} (c : Nat) (h : RdB w A l) :
    (convert 31 9 (.slice A l.length c)).run Tryd.prog w = .ok (.string ⟨l.toArray⟩) w := by
  rcases h with rfl | ⟨x, rfl, _, hc⟩
  · cases A with
    | none => exact Lib.run_convert_nil_bytes w _ _ 5 c Tryd.underlying31 Tryd.underlying5 Tryd.underlying9
    | some x => exact run_convert_bytes_back (P := Tryd.prog) _ 31 9 5 x c [] Tryd.underlying31 Tryd.underlying5 Tryd.underlying9 (fun j hj => by simp at hj)
  · exact run_convert_bytes_back (P := Tryd.prog) _ 31 9 5 x c l Tryd.underlying31 Tryd.underlying5 Tryd.underlying9 hc

set_option maxHeartbeats 4000000 in
theorem law_hex (a : Option Addr) (len cap : Nat) (zs : List Int) (w : World)
    (hz : (a = none ∧ len = 0 ∧ cap = 0 ∧ zs = []) ∨
      ∃ x, a = some x ∧ len ≤ cap ∧ cap ≤ maxLen ∧ zs.length = cap ∧ (∀ i, i < zs.length → w.cell? (x.add i) = some (.int .u8 (zs.getD i 0))) ∧ ∀ n ∈ zs, (Lit.int .u8 n).wf = true) (ht : Tab w) :
    Calls Tryd.prog 7 #[.slice a len cap] w fun e w' => e = .returned (.bool true) ∧ Below w.heap.size w w' := by
  have HT := Lib.hid ht
  have hlen : len ≤ maxLen := by
    rcases hz with ⟨_, rfl, _⟩ | ⟨_, _, h1, h2, _⟩
    · exact Nat.zero_le _
    · exact Nat.le_trans h1 h2
  obtain ⟨l, rfl, hr⟩ := rdB_of_row hz
  have HR := Lib.hid hr
  clear ht hz hr
  by_cases hl : 2000 < l.length
  · go_enter Tryd.func7, Tryd.ntmps7
    go_wp2_with fail
    refine (works_any _ HT.out).mono ?_
    rintro e w1 ⟨rfl, hb1⟩
    go_wp2
    go_ret
    exact ⟨rfl, hb1⟩
  · have hs : l.length ≤ 1048576 := by omega
    have HE := Lib.hid (encH_len l)
    have HX := Lib.hid (hexD_enc l [])
    have HO := Lib.hid (hex_odd l)
    go_enter Tryd.func7, Tryd.ntmps7
    go_wp2_with fail
    refine (encodeHex_any a cap l _ HR.out hs).mono ?_
    rintro e w1 ⟨rfl, hb1⟩
    have HB1 := Lib.hid hb1
    clear hb1
    go_wp2_with fail
    refine (decodeHex_any _ _ ?h).mono ?_
    case h => show (encH l).length ≤ _; rw [HE.out]; omega
    rintro e w2 ⟨A, c, he, hown, hb2⟩
    have e1 : dhOut (⟨(encH l).toArray⟩ : ByteArray).data.toList = l := by show (hexD [] (encH l)).getD [] = l; rw [HX.out]; rfl
    have e2 : dhOk (⟨(encH l).toArray⟩ : ByteArray).data.toList = true := by show (hexD [] (encH l)).isSome = true; rw [HX.out]; rfl
    rw [e1, e2] at he
    rw [e1] at hown
    clear e1 e2
    subst he
    have hel : (encH l).length ≤ 4000 := by rw [HE.out]; omega
    have HB2 := Lib.hid (HB1.out.trans (hb2.mono HB1.out.size))
    have HW2 := Lib.hid hown
    clear hown hb2
    go_wp2_with fail
    refine (decodeHex_any _ _ ?h).mono ?_
    case h => rw [size_cat]; show (encH l).length + 1 ≤ _; rw [HE.out]; omega
    rintro e w3 ⟨A', c', he, hown, hb3⟩
    rw [data_cat] at he
    have e1 : dhOut (encH l ++ [48]) = [] := by show (hexD [] (encH l ++ [48])).getD [] = []; rw [HO.out]; rfl
    have e2 : dhOk (encH l ++ [48]) = false := by show (hexD [] (encH l ++ [48])).isSome = false; rw [HO.out]; rfl
    replace he : e = .returned (.tuple #[.slice A' 0 c', .bool false]) := by
      rw [he]
      show Ending.returned (.tuple #[.slice A' (dhOut (encH l ++ [48])).length c', .bool (dhOk (encH l ++ [48]))]) = _
      rw [e1, e2]; rfl
    subst he
    clear e1 e2 hown
    have HB3 := Lib.hid (HB2.out.trans (hb3.mono HB2.out.size))
    have hcv : (convert 31 9 (.slice A l.length c)).run Tryd.prog w3 = .ok (.string ⟨l.toArray⟩) w3 := conv_own (own_below HW2.out hb3)
    have hcv2 : (convert 31 9 (.slice a l.length cap)).run Tryd.prog w3 = .ok (.string ⟨l.toArray⟩) w3 := conv_rd cap (HR.out.below HB3.out (Nat.le_refl _))
    clear hel
    have hsz : (⟨(encH l).toArray⟩ : ByteArray).size = 2 * l.length := HE.out
    clear hb3
    go_wp2_with fail
    refine (works_any _ (HT.out.below HB3.out)).mono ?_
    rintro e w7 ⟨rfl, hb7⟩
    go_wp2
    go_ret
    exact ⟨rfl, HB3.out.trans (hb7.mono HB3.out.size)⟩
end Go.Proofs.YtnddfmbgbgiljaaDoor
