/- The law LexerLines, walked. No condition. -/
import Derived.Test.YtnddfmbgbgiljaaLawF
namespace Go.Proofs.Ytnddfmbgbgiljaa
open Go.RowKit

theorem tokM_line : ∀ (n : Nat) (l : List UInt8) (at_ : Nat) (out : List Tk), (tokM n l at_ out).2.1 ≤ at_ + l.length ∧ ∀ t ∈ (tokM n l at_ out).1, t ∈ out ∨ t.line ≤ at_ + l.length
  | 0, l, at_, out => ⟨Nat.zero_le _, fun t h => .inl h⟩
  | n + 1, [], at_, out => ⟨Nat.zero_le _, fun t h => .inl h⟩
  | n + 1, c :: r, at_, out => by
    rw [tokM]
    split
    · obtain ⟨h1, h2⟩ := tokM_line n r (at_ + 1) out
      simp only [List.length_cons]
      exact ⟨by omega, fun t h => (h2 t h).imp id (by omega)⟩
    · split
      · obtain ⟨h1, h2⟩ := tokM_line n r at_ out
        simp only [List.length_cons]
        exact ⟨by omega, fun t h => (h2 t h).imp id (by omega)⟩
      · split
        · obtain ⟨h1, h2⟩ := tokM_line n ((c :: r).drop (ext notNl (c :: r))) at_ out
          rw [List.length_drop] at h1 h2
          exact ⟨by omega, fun t h => (h2 t h).imp id (by omega)⟩
        · split
          · exact ⟨Nat.le_add_right _ _, fun t h => by simp at h⟩
          · split
            · obtain ⟨h1, h2⟩ := tokM_line n ((c :: r).drop (nextM (c :: r)).1.text.length) at_ (out ++ [{ (nextM (c :: r)).1 with line := at_ }])
              rw [List.length_drop] at h1 h2
              refine ⟨by omega, fun t h => ?_⟩
              rcases h2 t h with h | h
              · rcases List.mem_append.1 h with h | h
                · exact .inl h
                · simp only [List.mem_singleton] at h
                  subst h
                  exact .inr (Nat.le_add_right _ _)
              · exact .inr (by omega)
            · exact ⟨Nat.le_add_right _ _, fun t h => by simp at h⟩
theorem tokenize_line (l : List UInt8) : (tokenize l).2.1 ≤ 1 + l.length ∧ ∀ t ∈ (tokenize l).1, t.line ≤ 1 + l.length := by
  unfold tokenize
  split
  · exact ⟨Nat.zero_le _, fun t h => by simp at h⟩
  · obtain ⟨h1, h2⟩ := tokM_line l.length l 1 []
    exact ⟨h1, fun t h => (h2 t h).resolve_left (by simp)⟩
theorem lines_law (a b : List UInt8) (ha : a.length ≤ 600) (hb : b.length ≤ 600) :
    ((tokenize a).2.2 ≠ 0 ∧ tokenize (a ++ 10 :: b) = ([], (tokenize a).2.1, (tokenize a).2.2)) ∨
    ((tokenize a).2.2 = 0 ∧ (tokenize b).2.2 ≠ 0 ∧ tokenize (a ++ 10 :: b) = ([], (tokenize b).2.1 + (nls a + 1), (tokenize b).2.2)) ∨
    ((tokenize a).2.2 = 0 ∧ (tokenize b).2.2 = 0 ∧ tokenize (a ++ 10 :: b) = ((tokenize a).1 ++ (tokenize b).1.map (Tk.shift (nls a + 1)), 0, 0)) := by
  have hl : (a ++ 10 :: b).length = a.length + b.length + 1 := by simp; omega
  have e1 : tokenize a = tokM (a ++ 10 :: b).length a 1 [] := by rw [tokenize, if_neg (by omega)]; exact tokM_fuel _ _ _ _ _ (Nat.le_refl _) (by omega)
  have e2 : tokenize b = tokM (a ++ 10 :: b).length b 1 [] := by rw [tokenize, if_neg (by omega)]; exact tokM_fuel _ _ _ _ _ (Nat.le_refl _) (by omega)
  have e3 : tokenize (a ++ 10 :: b) = tokM (a ++ 10 :: b).length (a ++ 10 :: b) 1 [] := by rw [tokenize, if_neg (by omega)]
  rw [e1, e2, e3]
  generalize (a ++ 10 :: b).length = n at *
  rcases tokM_nl n a b 1 [] (by omega) (by simp; omega) with ⟨h0, ts, a1, a2, a3⟩ | ⟨ln, er, h0, a1, a2⟩
  · rw [a3, show 1 + nls a + 1 = 1 + (nls a + 1) from by omega]
    rcases tokM_shift n b 1 (nls a + 1) [] ([] ++ ts) (by omega) (by simp; omega) (by simp; omega) with ⟨g0, us, b1, b2⟩ | ⟨ln, er, g0, b1, b2⟩
    · exact .inr (.inr ⟨h0, g0, by rw [b2, a1, b1]; simp⟩)
    · exact .inr (.inl ⟨h0, by rw [b1]; exact g0, by rw [b2, b1]⟩)
  · exact .inl ⟨by rw [a1]; exact h0, by rw [a2, a1]⟩

set_option maxRecDepth 100000 in
set_option maxHeartbeats 1000000 in
theorem law_lines (a b : ByteArray) (w : World) (hsa : a.size ≤ maxLen) (hsb : b.size ≤ maxLen) :
    Calls Try.prog 5 #[.string a, .string b] w fun e w' => e = .returned (.bool true) ∧ Below w.heap.size w w' := by
  by_cases hbig : 600 < a.size ∨ (¬ 600 < a.size ∧ 600 < b.size)
  · rcases hbig with h | ⟨h, h'⟩
    all_goals
      go_enter Try.func5, Try.ntmps5
      go_wp2_with fail
      refine (works_any _).mono ?_
      rintro e w' ⟨rfl, hb⟩
      go_wp2
      go_ret
      exact ⟨rfl, hb⟩
  · have ha : a.size ≤ 600 := by omega
    have hb : b.size ≤ 600 := by omega
    have ha' : ¬ 600 < a.size := by omega
    have hb' : ¬ 600 < b.size := by omega
    have HSA := Lib.hid hsa
    have HSB := Lib.hid hsb
    have hcs : (a ++ ⟨#[10]⟩ ++ b).data.toList = a.data.toList ++ 10 :: b.data.toList := by simp
    have hcz : (a ++ ⟨#[10]⟩ ++ b).size ≤ maxLen := by
      have : (a ++ ⟨#[10]⟩ ++ b).size = (a ++ ⟨#[10]⟩ ++ b).data.toList.length := rfl
      rw [this, hcs]; simp only [List.length_append, List.length_cons]; unfold maxLen
      show a.size + (b.size + 1) ≤ _; omega
    have HCS := Lib.hid hcs
    have HCZ := Lib.hid hcz
    have HLAW := Lib.hid (lines_law a.data.toList b.data.toList ha hb)
    have hnl : nls a.data.toList ≤ 600 := Nat.le_trans (nls_le _) ha
    rcases hta : tokenize a.data.toList with ⟨ta, la, ea⟩
    rcases htb : tokenize b.data.toList with ⟨tb, lb, eb⟩
    rcases htc : tokenize (a.data.toList ++ 10 :: b.data.toList) with ⟨tc, lc, ec⟩
    have HTA := Lib.hid hta
    have HTB := Lib.hid htb
    have HTC := Lib.hid htc
    have hlaw := HLAW.out
    rw [HTA.out, HTB.out, HTC.out] at hlaw
    simp only at hlaw
    have hla : ta.length ≤ 600 := by have := tokenize_len a.data.toList; rw [hta] at this; exact Nat.le_trans this ha
    have hlb : tb.length ≤ 600 := by have := tokenize_len b.data.toList; rw [htb] at this; exact Nat.le_trans this hb
    have hlb2 : lb ≤ 601 := by have := (tokenize_line b.data.toList).1; rw [htb] at this; exact Nat.le_trans this (by show 1 + b.size ≤ 601; omega)
    have HLN : Hid (∀ t ∈ tb, t.line ≤ 601) := Lib.hid fun t h => by have := (tokenize_line b.data.toList).2 t (by rw [htb]; exact h); exact Nat.le_trans this (by show 1 + b.size ≤ 601; omega)
    have HLW := Lib.hid hlaw
    clear hta htb htc hcs hcz hlaw hbig hsa hsb HLAW
    go_enter Try.func5, Try.ntmps5
    go_wp2_with fail
    refine (tokenize_any a _ HSA.out).mono ?_
    rintro e w1 ⟨A, c, rfl, hc, hown1, hb1⟩
    rw [HTA.out] at hown1 hc ⊢
    simp only at hown1 hc ⊢
    have H1 := Lib.hid (And.intro (RdS.of_own hown1) hb1)
    clear hown1 hc hb1
    go_wp2_with fail
    refine (tokenize_any b _ HSB.out).mono ?_
    rintro e w2 ⟨B, d, rfl, hc, hown2, hb2⟩
    rw [HTB.out] at hown2 hc ⊢
    simp only at hown2 hc ⊢
    have H2 := Lib.hid (And.intro (RdS.of_own hown2) (And.intro (H1.out.1.below hb2) (H1.out.2.trans (hb2.mono H1.out.2.size))))
    clear hown2 hc hb2 H1
    go_wp2_with fail
    refine (tokenize_any _ _ HCZ.out).mono ?_
    rintro e w3 ⟨C, f, rfl, hc, hown3, hb3⟩
    rw [HCS.out, HTC.out] at hown3 hc ⊢
    simp only at hown3 hc ⊢
    have H3 := Lib.hid (And.intro (RdS.of_own hown3) (And.intro (H2.out.1.below hb3) (And.intro (H2.out.2.1.below hb3) (H2.out.2.2.trans (hb3.mono H2.out.2.2.size)))))
    clear hown3 hc hb3 H2
    go_wp2
    go_loop [14, 15] (fun lv iv => ∃ k : Nat, k ≤ a.size ∧ iv = .int .i64 k ∧ lv = .int .i64 ((nls (a.data.toList.take k) + 1 : Nat) : Int)) (fun _ iv => a.size - (intOf iv).toNat)
    case atStart => exact ⟨0, Nat.zero_le _, rfl, rfl⟩
    case round =>
      obtain ⟨k, hk, rfl, rfl⟩ := hrel
      by_cases hlt : k < a.size
      · have HT : Hid (nls (a.data.toList.take (k + 1)) = nls (a.data.toList.take k) + if a[k] = 10 then 1 else 0) := by
          refine Lib.hid ?_
          rw [List.take_succ_eq_append_getElem (show k < a.data.toList.length from hlt), nls_snoc]; rfl
        have hle : nls (a.data.toList.take k) ≤ 600 := Nat.le_trans (nls_le _) (by rw [List.length_take]; have : a.data.toList.length = a.size := rfl; omega)
        by_cases h10 : a[k] = 10
        · have H10 := Lib.hid h10
          have h10' : ((a[k].toNat : Int) == 10) = true := by rw [h10]; rfl
          clear h10
          go_wp2
          go_round
          case rel => exact ⟨k + 1, by omega, by go_num, by rw [HT.out, if_pos H10.out]; go_num⟩
          case measure => simp [intOf]; omega
        · have H10 := Lib.hid h10
          have h10' : ((a[k].toNat : Int) == 10) = false := byte_ne h10
          clear h10
          go_wp2
          go_round
          case rel => exact ⟨k + 1, by omega, by go_num, by rw [HT.out, if_neg H10.out]⟩
          case measure => simp [intOf]; omega
      · have hke : nls (a.data.toList.take k) = nls a.data.toList := by rw [List.take_of_length_le (by show a.size ≤ k; omega)]
        rw [hke]
        clear hke
        rcases HLW.out with ⟨h0, h1⟩ | ⟨h0, h1, h2⟩ | ⟨h0, h1, h2⟩
        · injection h1 with h1 h3
          injection h3 with h3 h4
          subst h1 h3 h4
          have h0' : ((ec : Int) != 0) = true := by rw [bne_iff_ne]; omega
          clear h0
          go_wp2_with fail
          refine (works_any _).mono ?_
          rintro e w' ⟨rfl, hb4⟩
          go_wp2
          go_ret
          exact ⟨rfl, H3.out.2.2.2.trans (hb4.mono H3.out.2.2.2.size)⟩
        · injection h2 with h2 h3
          injection h3 with h3 h4
          subst h2 h3 h4
          have h0' : ((ea : Int) != 0) = false := by rw [h0]; rfl
          have h1' : ((ec : Int) != 0) = true := by rw [bne_iff_ne]; omega
          clear h0 h1
          go_wp2_with fail
          refine (works_any _).mono ?_
          rintro e w' ⟨rfl, hb4⟩
          go_wp2
          go_ret
          exact ⟨rfl, H3.out.2.2.2.trans (hb4.mono H3.out.2.2.2.size)⟩
        · injection h2 with h2 h3
          injection h3 with h3 h4
          subst h3 h4
          have HT2 := Lib.hid h2
          have h0' : ((ea : Int) != 0) = false := by rw [h0]; rfl
          have h1' : ((eb : Int) != 0) = false := by rw [h1]; rfl
          have hlen : tc.length = ta.length + tb.length := by rw [h2]; simp
          clear h0 h1 h2
          rw [hlen]
          have HLEN := Lib.hid hlen
          clear hlen
          go_wp2
          go_loopw [16] (fun iv wr => ∃ k : Nat, k ≤ ta.length + tb.length ∧ iv = .int .i64 k ∧ Below w3.heap.size w3 wr) (fun iv _ => ta.length + tb.length - (intOf iv).toNat)
          case atStart => exact ⟨0, Nat.zero_le _, rfl, Below.refl _ _⟩
          case round =>
            obtain ⟨k, hk, rfl, hbr⟩ := hrel
            by_cases hlt : k < ta.length + tb.length
            · have hRC := H3.out.1.below hbr
              have hRA := H3.out.2.2.1.below hbr
              have hRB := H3.out.2.1.below hbr
              obtain ⟨gc, rfl, _, c0, c1, c2, c3⟩ := tk_cells hRC (k := k) (by rw [HLEN.out]; exact hlt)
              have hBB := Lib.hid hbr
              by_cases hla2 : k < ta.length
              · have e : tc[k]'(by rw [HLEN.out]; exact hlt) = ta[k] := by simp only [HT2.out]; rw [List.getElem_append_left hla2]
                rw [e] at c0 c1 c2 c3
                clear e
                obtain ⟨ga, rfl, _, a0, a1, a2, a3⟩ := tk_cells hRA hla2
                generalize ta[k] = tk at *
                have hdec : decide (k < ta.length) = true := by simpa using hla2
                clear hRC hRA hRB hbr
                go_wp2
                go_quiet (fail)
                go_wp2
                go_roundw
                case rel => exact ⟨k + 1, by omega, by go_num, below_drewN (below_alloc hBB.out _) _⟩
                case measure => simp [intOf]; omega
              · have hj : k - ta.length < tb.length := by omega
                have e : tc[k]'(by rw [HLEN.out]; exact hlt) = (tb[k - ta.length]'hj).shift (nls a.data.toList + 1) := by
                  simp only [HT2.out]; rw [List.getElem_append_right (by omega)]; simp
                rw [e] at c0 c1 c2 c3
                clear e
                obtain ⟨gb, rfl, _, b0, b1, b2, b3⟩ := tk_cells hRB hj
                have hln := HLN.out _ (List.getElem_mem hj)
                generalize tb[k - ta.length]'hj = tk at *
                have hdec : decide (k < ta.length) = false := by simpa using hla2
                replace c3 : wr.cell? ⟨gc, k * 4 + 3, none⟩ = some (.int .i64 ((tk.line : Int) + ((nls a.data.toList + 1 : Nat) : Int))) := c3
                replace c0 : wr.cell? ⟨gc, k * 4, none⟩ = some (.int .i64 tk.kind) := c0
                replace c1 : wr.cell? ⟨gc, k * 4 + 1, none⟩ = some (.string ⟨tk.text.toArray⟩) := c1
                replace c2 : wr.cell? ⟨gc, k * 4 + 2, none⟩ = some (.int .u32 tk.value) := c2
                clear hRC hRA hRB hbr
                go_wp2
                go_quiet (fail)
                go_wp2
                go_quiet (fail)
                go_wp2
                go_roundw
                case rel => exact ⟨k + 1, by omega, by go_num, below_drewN (Below.setCell (p := ⟨wr.heap.size, 3, none⟩) (below_drewN (below_alloc hBB.out _) _) hBB.out.size _) _⟩
                case measure => simp [intOf]; omega
            · go_wp2_with fail
              refine (works_any _).mono ?_
              rintro e w' ⟨rfl, hb4⟩
              go_wp2
              go_ret
              have h3 := H3.out.2.2.2.trans (hbr.mono H3.out.2.2.2.size)
              exact ⟨rfl, h3.trans (hb4.mono h3.size)⟩

end Go.Proofs.Ytnddfmbgbgiljaa
