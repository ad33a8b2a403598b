/- The law LexerCovers, walked. No condition. -/
import Derived.Test.YtnddfmbgbgiljaaLawD
namespace Go.Proofs.Ytnddfmbgbgiljaa
open Go.RowKit

/-- the tokens' cells, read one by one -/
theorem tk_cells {w : World} {A : Option Addr} {toks : List Tk} (h : RdS w 4 A toks.length (tkCells toks)) {k : Nat} (hk : k < toks.length) :
    ∃ g, A = some ⟨g, 0, none⟩ ∧ g < w.heap.size ∧ w.cell? ⟨g, k * 4, none⟩ = some (.int .i64 (toks[k]'hk).kind) ∧ w.cell? ⟨g, k * 4 + 1, none⟩ = some (.string ⟨(toks[k]'hk).text.toArray⟩) ∧
      w.cell? ⟨g, k * 4 + 2, none⟩ = some (.int .u32 (toks[k]'hk).value) ∧ w.cell? ⟨g, k * 4 + 3, none⟩ = some (.int .i64 (toks[k]'hk).line) := by
  obtain ⟨g, e, hg, hc⟩ := h (by omega)
  refine ⟨g, e, hg, ?_, ?_, ?_, ?_⟩
  · have := hc (k * 4 + 0) (by omega); rw [tkCells_at _ _ hk 0 (by omega)] at this; exact this
  · have := hc (k * 4 + 1) (by omega); rw [tkCells_at _ _ hk 1 (by omega)] at this; exact this
  · have := hc (k * 4 + 2) (by omega); rw [tkCells_at _ _ hk 2 (by omega)] at this; exact this
  · have := hc (k * 4 + 3) (by omega); rw [tkCells_at _ _ hk 3 (by omega)] at this; exact this
theorem byte_str {l : List UInt8} {a : ByteArray} (h : a.data.toList = l) : a = ⟨l.toArray⟩ := by
  apply ByteArray.ext; apply Array.ext'; rw [h]

set_option maxRecDepth 100000 in
set_option maxHeartbeats 4000000 in
theorem law_covers (s : ByteArray) (w : World) (hs : s.size ≤ maxLen) :
    Calls Try.prog 4 #[.string s] w fun e w' => e = .returned (.bool true) ∧ Below w.heap.size w w' := by
  have HS := Lib.hid hs
  rcases htk : tokenize s.data.toList with ⟨toks, line, err⟩
  have HTK := Lib.hid htk
  clear htk
  by_cases hskip : 300000 < s.size ∨ 600 < s.size ∨ err ≠ 0
  · have hcase : 600 < s.size ∨ (¬ 600 < s.size ∧ ((err : Int) != 0) = true) := by
      rcases hskip with h | h | h
      · exact .inl (by omega)
      · exact .inl h
      · by_cases h6 : 600 < s.size
        · exact .inl h6
        · exact .inr ⟨h6, by rw [bne_iff_ne]; omega⟩
    clear hskip
    rcases hcase with h | ⟨h, h'⟩
    all_goals
      go_enter Try.func4, Try.ntmps4
      go_wp2_with fail
      refine (tokenize_any s _ HS.out).mono ?_
      rintro e w1 ⟨A, c, rfl, hc, hown, hb⟩
      rw [HTK.out] at hown hc ⊢
      simp only at hown hc ⊢
      clear hown
      go_wp2_with fail
      refine (works_any _).mono ?_
      rintro e w' ⟨rfl, hb2⟩
      go_wp2
      go_ret
      exact ⟨rfl, hb.trans (hb2.mono hb.size)⟩
  · have h600 : s.size ≤ 600 := by omega
    have he0 : err = 0 := by omega
    have he : ((err : Int) != 0) = false := by rw [he0]; rfl
    have hcov := tokenize_covers s.data.toList (by rw [HTK.out]; exact he0)
    rw [HTK.out] at hcov
    have HCOV := Lib.hid hcov.1
    have HLIN := Lib.hid hcov.2
    have hlen : toks.length ≤ 600 := by
      have := tokenize_len s.data.toList
      rw [HTK.out] at this
      exact Nat.le_trans this (by show s.size ≤ _; omega)
    have HTL : Hid (∀ i, (texts (toks.take i)).length ≤ 600) := by
      refine Lib.hid fun i => ?_
      refine Nat.le_trans (texts_le toks i) ?_
      rw [HCOV.out]
      refine Nat.le_trans (strip_len false s.data.toList) ?_
      show s.size ≤ 600; omega
    clear hcov he0 hskip
    have h600' : ¬ 600 < s.size := by omega
    obtain ⟨i0, hi, hz0, hz1, hz2⟩ := info_parts Try.infoByte
    go_enter Try.func4, Try.ntmps4
    go_wp2_with fail
    refine (tokenize_any s _ HS.out).mono ?_
    rintro e w1 ⟨A, c, rfl, hc, hown, hb⟩
    rw [HTK.out] at hown hc ⊢
    simp only at hown hc ⊢
    have HRD := Lib.hid (RdS.of_own hown)
    have HB := Lib.hid hb
    have hws := hb.size
    clear hown hb hc
    go_wp2
    go_loop [6, 7, 8] (fun av lv iv => ∃ (k ln : Nat) (a : ByteArray), k ≤ toks.length ∧ iv = .int .i64 k ∧ lv = .int .i64 ln ∧ Hid (linesOk ln (toks.drop k)) ∧ av = .string a ∧ Hid (a.data.toList = texts (toks.take k)) ∧ a.size ≤ 600)
      (fun _ _ iv => toks.length - (intOf iv).toNat)
    case atStart => exact ⟨0, 1, ⟨#[]⟩, Nat.zero_le _, rfl, rfl, Lib.hid HLIN.out, rfl, Lib.hid rfl, by decide⟩
    case round =>
      obtain ⟨k, ln, a, hk, rfl, rfl, HLN, rfl, HA, ha⟩ := hrel
      by_cases hlt : k < toks.length
      · obtain ⟨g, rfl, _, k0, k1, k2, k3⟩ := tk_cells HRD.out hlt
        obtain ⟨hne, hge, hnx⟩ := linesOk_drop hlt HLN.out
        have HNX := Lib.hid hnx
        have hsz : (texts (toks.take (k + 1))).length ≤ 600 := HTL.out (k + 1)
        have HTX := Lib.hid (texts_take hlt)
        rw [texts_take hlt, List.length_append] at hsz
        have hal : (texts (toks.take k)).length = a.size := by rw [← HA.out]; rfl
        rw [hal] at hsz
        clear hal hnx
        generalize toks[k] = tk at *
        have hem : tk.text.isEmpty = false := by simpa using hne
        clear hne k0 k2
        have hem' : tk.text ≠ [] := by simpa using hem
        go_wp2
        go_round
        case rel =>
          refine ⟨k + 1, tk.line, a ++ ⟨tk.text.toArray⟩, by omega, by go_num, rfl, HNX, rfl, Lib.hid ?_, ?_⟩
          · rw [HTX.out, ← HA.out]; simp
          · rw [ByteArray.size_append]; exact hsz
        case measure => simp [intOf]; omega
      · have hke : toks.take k = toks := List.take_of_length_le (by omega)
        have HK := Lib.hid hke
        clear hke
        go_wp2
        go_loopw [9, 10, 11] (fun bv cv iv wr => ∃ (k : Nat) (cm : Bool) (l : List UInt8) (B : Option Addr) (d : Nat), k ≤ s.size ∧ iv = .int .i64 k ∧ cv = .bool cm ∧ bv = .slice B l.length d ∧ l.length ≤ k ∧
            Hid (strip false s.data.toList = l ++ strip cm (s.data.toList.drop k)) ∧ wr.ownsRow w.heap.size 5 1 (.slice B l.length d) l.length (byteVals l) ∧ Below w.heap.size w wr) (fun _ _ iv _ => s.size - (intOf iv).toNat)
        case atStart => exact ⟨0, false, [], none, 0, Nat.zero_le _, rfl, rfl, rfl, Nat.le_refl _, Lib.hid rfl, World.ownsRow_nil _ _ _ _, HB.out⟩
        case round =>
          obtain ⟨j, cm, l, B, d, hj, rfl, rfl, rfl, hll, HST, hown, hbel⟩ := hrel
          by_cases hjl : j < s.size
          · have HD := Lib.hid (drop_cons s j hjl)
            have HBN : Hid (∀ k : UInt8, s[j] ≠ k → ((s[j].toNat : Int) == (k.toNat : Int)) = false) := Lib.hid fun k h => byte_ne h
            have hcase : s[j] = 10 ∨ s[j] = 35 ∨ s[j] = 32 ∨ s[j] = 9 ∨ (s[j] ≠ 10 ∧ s[j] ≠ 35 ∧ s[j] ≠ 32 ∧ s[j] ≠ 9) := by
              by_cases h1 : s[j] = 10
              · exact .inl h1
              · by_cases h2 : s[j] = 35
                · exact .inr (.inl h2)
                · by_cases h3 : s[j] = 32
                  · exact .inr (.inr (.inl h3))
                  · by_cases h4 : s[j] = 9
                    · exact .inr (.inr (.inr (.inl h4)))
                    · exact .inr (.inr (.inr (.inr ⟨h1, h2, h3, h4⟩)))
            rcases hcase with hb | hb | hb | hb | ⟨n1, n2, n3, n4⟩
            · have HC := Lib.hid hb
              have e1 : ((s[j].toNat : Int) == 10) = true := by rw [hb]; rfl
              have e1' : ((s[j].toNat : Int) != 10) = false := by rw [hb]; rfl
              have e2 : ((s[j].toNat : Int) == 35) = false := by rw [hb]; rfl
              have e3 : ((s[j].toNat : Int) != 32) = true := by rw [hb]; rfl
              have e4 : ((s[j].toNat : Int) != 9) = true := by rw [hb]; rfl
              clear hb
              cases cm
              all_goals
                have HS2 : Hid (strip false s.data.toList = l ++ strip false (s.data.toList.drop (j + 1))) := by
                  refine Lib.hid ?_
                  rw [HST.out, HD.out, HC.out]; rfl
                go_wp2
                go_roundw
                case rel => exact ⟨j + 1, false, l, B, d, by omega, by go_num, rfl, rfl, by omega, HS2, hown, hbel⟩
                case measure => simp [intOf]; omega
            · have HC := Lib.hid hb
              have e1 : ((s[j].toNat : Int) == 10) = false := by rw [hb]; rfl
              have e1' : ((s[j].toNat : Int) != 10) = true := by rw [hb]; rfl
              have e2 : ((s[j].toNat : Int) == 35) = true := by rw [hb]; rfl
              have e3 : ((s[j].toNat : Int) != 32) = true := by rw [hb]; rfl
              have e4 : ((s[j].toNat : Int) != 9) = true := by rw [hb]; rfl
              clear hb
              cases cm
              all_goals
                have HS2 : Hid (strip false s.data.toList = l ++ strip true (s.data.toList.drop (j + 1))) := by
                  refine Lib.hid ?_
                  rw [HST.out, HD.out, HC.out]; rfl
                go_wp2
                go_roundw
                case rel => exact ⟨j + 1, true, l, B, d, by omega, by go_num, rfl, rfl, by omega, HS2, hown, hbel⟩
                case measure => simp [intOf]; omega
            · have HC := Lib.hid hb
              have e1 : ((s[j].toNat : Int) == 10) = false := by rw [hb]; rfl
              have e1' : ((s[j].toNat : Int) != 10) = true := by rw [hb]; rfl
              have e2 : ((s[j].toNat : Int) == 35) = false := by rw [hb]; rfl
              have e3 : ((s[j].toNat : Int) != 32) = false := by rw [hb]; rfl
              have e4 : ((s[j].toNat : Int) != 9) = true := by rw [hb]; rfl
              clear hb
              cases cm
              · have HS2 : Hid (strip false s.data.toList = l ++ strip false (s.data.toList.drop (j + 1))) := by
                  refine Lib.hid ?_
                  rw [HST.out, HD.out, HC.out]; rfl
                go_wp2
                go_roundw
                case rel => exact ⟨j + 1, false, l, B, d, by omega, by go_num, rfl, rfl, by omega, HS2, hown, hbel⟩
                case measure => simp [intOf]; omega
              · have HS2 : Hid (strip false s.data.toList = l ++ strip true (s.data.toList.drop (j + 1))) := by
                  refine Lib.hid ?_
                  rw [HST.out, HD.out, HC.out]; rfl
                go_wp2
                go_roundw
                case rel => exact ⟨j + 1, true, l, B, d, by omega, by go_num, rfl, rfl, by omega, HS2, hown, hbel⟩
                case measure => simp [intOf]; omega
            · have HC := Lib.hid hb
              have e1 : ((s[j].toNat : Int) == 10) = false := by rw [hb]; rfl
              have e1' : ((s[j].toNat : Int) != 10) = true := by rw [hb]; rfl
              have e2 : ((s[j].toNat : Int) == 35) = false := by rw [hb]; rfl
              have e3 : ((s[j].toNat : Int) != 32) = true := by rw [hb]; rfl
              have e4 : ((s[j].toNat : Int) != 9) = false := by rw [hb]; rfl
              clear hb
              cases cm
              · have HS2 : Hid (strip false s.data.toList = l ++ strip false (s.data.toList.drop (j + 1))) := by
                  refine Lib.hid ?_
                  rw [HST.out, HD.out, HC.out]; rfl
                go_wp2
                go_roundw
                case rel => exact ⟨j + 1, false, l, B, d, by omega, by go_num, rfl, rfl, by omega, HS2, hown, hbel⟩
                case measure => simp [intOf]; omega
              · have HS2 : Hid (strip false s.data.toList = l ++ strip true (s.data.toList.drop (j + 1))) := by
                  refine Lib.hid ?_
                  rw [HST.out, HD.out, HC.out]; rfl
                go_wp2
                go_roundw
                case rel => exact ⟨j + 1, true, l, B, d, by omega, by go_num, rfl, rfl, by omega, HS2, hown, hbel⟩
                case measure => simp [intOf]; omega
            · have HN := Lib.hid (And.intro n1 (And.intro n2 (And.intro n3 n4)))
              have e1 : ((s[j].toNat : Int) == 10) = false := HBN.out 10 n1
              have e1' : ((s[j].toNat : Int) != 10) = true := by rw [bne, e1]; rfl
              have e2 : ((s[j].toNat : Int) == 35) = false := HBN.out 35 n2
              have e3 : ((s[j].toNat : Int) != 32) = true := by rw [bne_iff_ne]; exact beq_eq_false_iff_ne.1 (HBN.out 32 n3)
              have e4 : ((s[j].toNat : Int) != 9) = true := by rw [bne_iff_ne]; exact beq_eq_false_iff_ne.1 (HBN.out 9 n4)
              clear n1 n2 n3 n4
              cases cm
              · have HS2 : Hid (strip false s.data.toList = (l ++ [s[j]]) ++ strip false (s.data.toList.drop (j + 1))) := by
                  refine Lib.hid ?_
                  rw [HST.out, HD.out, strip, if_neg (by simp [HN.out.2.1]), if_neg (by rintro (h | h | h); exact HN.out.2.2.1 h; exact HN.out.2.2.2 h; exact HN.out.1 h)]
                  simp
                have hl1 : (l ++ [s[j]]).length = l.length + 1 := by simp
                have HL1 := Lib.hid hl1
                clear hl1
                go_wp2_with (first
                  | (at_builtin; refine wpList_append_own _ rfl _ _ 35 rfl w.heap.size 5 i0 _ 1 1 Try.underlying35 hi hz0 hz1 hz2 rfl (by decide) _ _ _ rfl (hown.alloc _) ⟨wr.heap.size, 0, none⟩ 1 1 [.int .u8 s[j].toNat] rfl rfl ?c1 ?c2 ?c3 ?c4 ?c5 ?_))
                case c1 => exact one_news _ _ rfl _ _
                case c2 => intro u hu; simp at hu; subst hu; rfl
                case c3 => unfold maxLen; omega
                case c4 => omega
                case c5 => have := hbel.size; simp; omega
                intro v' w2 hown2 hgrow _
                have hbel2 : Below w.heap.size w w2 := (below_alloc hbel _).grown hgrow (by have := hbel.size; simp; omega) fun k hk => (hown.lt k hk).1
                rw [← byteVals_snoc] at hown2
                have HB2 := Lib.hid hbel2
                have HO := Lib.hid hown2
                obtain ⟨B', d', hv, _⟩ := own_slice hown2
                have HV := Lib.hid hv
                clear hbel2 hown2 hgrow hbel hown hv
                go_wp2
                go_roundw
                case rel =>
                  refine ⟨j + 1, false, l ++ [s[j]], B', d', by omega, by go_num, rfl, by rw [HL1.out]; exact HV.out, by rw [HL1.out]; omega, HS2, ?_, HB2.out⟩
                  rw [HL1.out, ← HV.out]
                  exact HO.out
                case measure => simp [intOf]; omega
              · have HS2 : Hid (strip false s.data.toList = l ++ strip true (s.data.toList.drop (j + 1))) := by
                  refine Lib.hid ?_
                  rw [HST.out, HD.out, strip, if_pos (by simp [HN.out.1])]
                go_wp2
                go_roundw
                case rel => exact ⟨j + 1, true, l, B, d, by omega, by go_num, rfl, rfl, by omega, HS2, hown, hbel⟩
                case measure => simp [intOf]; omega
          · have hend : strip false s.data.toList = l := by
              rw [HST.out, List.drop_of_length_le (by show s.size ≤ j; omega)]
              cases cm <;> simp [strip]
            have hcv : (convert 35 9 (.slice B l.length d)).run Try.prog wr = .ok (.string ⟨l.toArray⟩) wr := conv_own hown
            have heq : (a.toList == l) = true := by
              rw [toList_data, HA.out, HK.out, HCOV.out, hend]; simp
            have HBL := Lib.hid hbel
            clear hown hbel hend
            go_wp2_with fail
            refine (works_any _).mono ?_
            rintro e w' ⟨rfl, hb3⟩
            go_wp2
            go_ret
            exact ⟨rfl, HBL.out.trans (hb3.mono HBL.out.size)⟩

end Go.Proofs.Ytnddfmbgbgiljaa
