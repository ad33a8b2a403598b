/- The law LexerIdentifies, walked. -/
import Derived.Test.YtnddfmbgbgiljaaLawB
namespace Go.Proofs.Ytnddfmbgbgiljaa
open Go.RowKit

/-- the tokens' texts together -/
def textLen (l : List Tk) : Nat := (l.map fun t => t.text.length).sum
theorem tokM_text : ∀ (n : Nat) (l : List UInt8) (at_ : Nat) (out : List Tk), textLen (tokM n l at_ out).1 ≤ textLen out + l.length
  | 0, _, _, _ => Nat.le_add_right _ _
  | n + 1, [], _, _ => Nat.le_add_right _ _
  | n + 1, c :: r, at_, out => by
    rw [tokM]
    split
    · exact Nat.le_trans (tokM_text n r _ _) (by simp only [List.length_cons]; omega)
    · split
      · exact Nat.le_trans (tokM_text n r _ _) (by simp only [List.length_cons]; omega)
      · split
        · exact Nat.le_trans (tokM_text n _ _ _) (by rw [List.length_drop]; omega)
        · split
          · simp [textLen]
          · split
            · rename_i h0
              have hp := nextM_len (c :: r) h0
              refine Nat.le_trans (tokM_text n _ _ _) ?_
              rw [List.length_drop]
              simp only [textLen, List.map_append, List.sum_append, List.map_cons, List.map_nil, List.sum_cons, List.sum_nil]
              omega
            · simp [textLen]
theorem tokM_prefix : ∀ (n : Nat) (l : List UInt8) (at_ : Nat) (out : List Tk), (tokM n l at_ out).2.2 = 0 → ∃ ts, (tokM n l at_ out).1 = out ++ ts
  | 0, _, _, out, _ => ⟨[], by simp [tokM]⟩
  | n + 1, [], _, out, _ => ⟨[], by simp [tokM]⟩
  | n + 1, c :: r, at_, out, h => by
    rw [tokM] at h ⊢
    split at h
    · rename_i h1; rw [if_pos h1]; exact tokM_prefix n r _ _ h
    · rename_i h1; rw [if_neg h1]
      split at h
      · rename_i h2; rw [if_pos h2]; exact tokM_prefix n r _ _ h
      · rename_i h2; rw [if_neg h2]
        split at h
        · rename_i h3; rw [if_pos h3]; exact tokM_prefix n _ _ _ h
        · rename_i h3; rw [if_neg h3]
          split at h
          · cases h
          · rename_i h4; rw [if_neg h4]
            split at h
            · rename_i h5; rw [if_pos h5]
              obtain ⟨ts, e⟩ := tokM_prefix n _ _ _ h
              exact ⟨_ :: ts, by rw [e, List.append_assoc]; rfl⟩
            · rename_i h5; exact absurd h h5

theorem single_of_ident (l : List UInt8) (h : identM l = true) : tokenize l = ([⟨1, l, 0, 1⟩], 0, 0) := by
  match l, h with
  | c :: r, h =>
    simp only [identM, Bool.and_eq_true, decide_eq_true_eq] at h
    obtain ⟨⟨h16, hl⟩, he⟩ := h
    rw [tokenize, if_neg (by omega)]
    have hc10 : c ≠ 10 := by rintro rfl; revert hl; decide
    have hc32 : ¬ (c = 32 ∨ c = 9) := by rintro (rfl | rfl) <;> revert hl <;> decide
    have hc35 : c ≠ 35 := by rintro rfl; revert hl; decide
    have hn : nextM (c :: r) = (⟨1, c :: r, 0, 0⟩, 0) := by
      simp only [nextM, hl, if_true, he]
      rw [if_neg (by omega)]
      simp
    rw [List.length_cons, tokM, if_neg hc10, if_neg hc32, if_neg hc35, if_neg (by simp), hn, if_pos rfl]
    simp only [List.drop_length, List.nil_append]
    cases r.length <;> rfl
theorem ident_of_single (l : List UInt8) (h : (tokenize l).1 = [⟨1, l, 0, 1⟩]) (h0 : (tokenize l).2.2 = 0) : identM l = true := by
  unfold tokenize at h h0
  split at h
  · cases h
  · rename_i hlen
    rw [if_neg hlen] at h0
    match l, h, h0, hlen with
    | [], h, _, _ => cases h
    | c :: r, h, h0, hlen =>
      rw [List.length_cons] at h h0
      have hT : textLen (tokM (r.length + 1) (c :: r) 1 []).1 = r.length + 1 := by rw [h]; simp [textLen]
      rw [tokM] at h h0 hT
      split at h
      · rename_i h1; rw [if_pos h1] at hT
        have := tokM_text r.length r (1 + 1) []
        rw [hT] at this; simp [textLen] at this; omega
      · rename_i h1; rw [if_neg h1] at hT h0
        split at h
        · rename_i h2; rw [if_pos h2] at hT
          have := tokM_text r.length r 1 []
          rw [hT] at this; simp [textLen] at this; omega
        · rename_i h2; rw [if_neg h2] at hT h0
          split at h
          · rename_i h3; rw [if_pos h3] at hT
            have hx : 0 < ext notNl (c :: r) := by rw [ext, if_pos (by subst h3; decide)]; omega
            have := tokM_text r.length ((c :: r).drop (ext notNl (c :: r))) 1 []
            rw [hT, List.length_drop] at this
            simp only [textLen, List.map_nil, List.sum_nil, List.length_cons] at this
            omega
          · rename_i h3; rw [if_neg h3] at hT h0
            split at h
            · cases h
            · rename_i h4; rw [if_neg h4] at h0
              split at h
              · rename_i h5; rw [if_pos h5] at h0
                obtain ⟨ts, e⟩ := tokM_prefix _ _ _ _ h0
                rw [e] at h
                simp only [List.nil_append, List.cons_append, List.cons.injEq] at h
                have hk := congrArg Tk.kind h.1
                have ht := congrArg Tk.text h.1
                simp only at hk ht
                simp only [nextM] at hk ht h5
                by_cases hl : isLet c.toNat = true
                · rw [if_pos hl] at hk ht h5
                  split at h5
                  · cases h5
                  · rename_i h6
                    rw [if_neg h6] at ht
                    have hle := ext_le isWord (c :: r)
                    have hlen' := congrArg List.length ht
                    simp only [List.length_take] at hlen'
                    simp only [identM, Bool.and_eq_true, decide_eq_true_eq]
                    exact ⟨⟨by omega, hl⟩, by omega⟩
                · rw [if_neg hl] at hk h5
                  split at hk
                  · split at hk
                    · exact absurd (show (0 : Nat) = 1 from hk) (by decide)
                    · exact absurd (show (2 : Nat) = 1 from hk) (by decide)
                  · split at hk
                    · exact absurd (show (0 : Nat) = 1 from hk) (by decide)
                    · exact absurd (show (3 : Nat) = 1 from hk) (by decide)
              · cases h
theorem ident_iff (l : List UInt8) : identM l = decide ((tokenize l).2.2 = 0 ∧ (tokenize l).1 = [⟨1, l, 0, 1⟩]) := by
  rw [Bool.eq_iff_iff, decide_eq_true_iff]
  constructor
  · intro h; rw [single_of_ident l h]; exact ⟨rfl, rfl⟩
  · intro h; exact ident_of_single l h.2 h.1

set_option maxRecDepth 100000 in
set_option maxHeartbeats 2000000 in
theorem law_identifies (s : ByteArray) (w : World) (hs : s.size ≤ maxLen) :
    Calls Try.prog 7 #[.string s] w fun e w' => e = .returned (.bool true) ∧ Below w.heap.size w w' := by
  have HS := Lib.hid hs
  by_cases h : 300 < s.size
  · go_enter Try.func7, Try.ntmps7
    go_wp2_with fail
    refine (works_any _).mono ?_
    rintro e w' ⟨rfl, hb⟩
    go_wp2
    go_ret
    exact ⟨rfl, hb⟩
  · have HI := Lib.hid (ident_iff s.data.toList)
    have hlen : (tokenize s.data.toList).1.length ≤ 300 := Nat.le_trans (tokenize_len _) (by show s.size ≤ _; omega)
    rcases htk : tokenize s.data.toList with ⟨toks, line, err⟩
    rw [htk] at hlen
    simp only at hlen
    have HTK := Lib.hid htk
    clear htk
    rcases hi : identM s.data.toList with _ | _
    · have HID := Lib.hid hi
      clear hi
      have hno : ¬ (err = 0 ∧ toks = [⟨1, s.data.toList, 0, 1⟩]) := by
        have := HI.out
        rw [HTK.out, HID.out, eq_comm, decide_eq_false_iff_not] at this
        exact this
      by_cases he : err = 0
      · by_cases h1 : toks.length = 1
        · obtain ⟨t, rfl⟩ := List.length_eq_one_iff.1 h1
          have hne : t ≠ ⟨1, s.data.toList, 0, 1⟩ := fun e => hno ⟨he, by rw [e]⟩
          clear hno h1 hlen
          have he' : ((err : Int) == 0) = true := by rw [he]; rfl
          clear he
          go_enter Try.func7, Try.ntmps7
          go_wp2_with fail
          refine (isIdent_any s _ HS.out).mono ?_
          rintro e w' ⟨rfl, rfl⟩
          rw [HID.out]
          go_wp2_with fail
          refine (tokenize_any s _ HS.out).mono ?_
          rintro e w1 ⟨A, c, rfl, hc, hown, hb⟩
          rw [HTK.out] at hown hc ⊢
          simp only [List.length_singleton] at hown hc ⊢
          obtain ⟨g, cap, hv, _, hlt⟩ := hown.form (by omega)
          have hA : A = some ⟨g, 0, none⟩ := by injection hv
          subst hA
          have k0 : w1.cell? ⟨g, 0, none⟩ = some (.int .i64 t.kind) := hown.cellAt 0 (by omega)
          have k1 : w1.cell? ⟨g, 1, none⟩ = some (.string ⟨t.text.toArray⟩) := hown.cellAt 1 (by omega)
          have k2 : w1.cell? ⟨g, 2, none⟩ = some (.int .u32 t.value) := hown.cellAt 2 (by omega)
          have k3 : w1.cell? ⟨g, 3, none⟩ = some (.int .i64 t.line) := hown.cellAt 3 (by omega)
          clear hv hown
          go_wp2_with fail
          all_goals first
            | (exfalso
               apply hne
               obtain ⟨a0, a1, a2, a3⟩ := t
               simp only at *
               have e1 : a0 = 1 := by omega
               have e2 : a1 = s.data.toList := by rw [← toList_data]; assumption
               have e3 : a2 = 0 := by omega
               have e4 : a3 = 1 := by omega
               rw [e1, e2, e3, e4])
            | (refine (risIdent_any s _ HS.out).mono ?_
               rintro e w' ⟨rfl, rfl⟩
               rw [HID.out]
               go_wp2_with fail
               refine (works_any _).mono ?_
               rintro e w' ⟨rfl, hb2⟩
               go_wp2
               go_ret
               exact ⟨rfl, hb.trans (hb2.mono hb.size)⟩)
        · have hl1 : ((toks.length : Int) == 1) = false := by rw [beq_eq_false_iff_ne]; omega
          have he' : ((err : Int) == 0) = true := by rw [he]; rfl
          clear he hno
          go_enter Try.func7, Try.ntmps7
          go_wp2_with fail
          refine (isIdent_any s _ HS.out).mono ?_
          rintro e w' ⟨rfl, rfl⟩
          rw [HID.out]
          go_wp2_with fail
          refine (tokenize_any s _ HS.out).mono ?_
          rintro e w1 ⟨A, c, rfl, hc, hown, hb⟩
          rw [HTK.out] at hown hc ⊢
          simp only at hown hc ⊢
          clear hown
          go_wp2_with fail
          refine (risIdent_any s _ HS.out).mono ?_
          rintro e w' ⟨rfl, rfl⟩
          rw [HID.out]
          go_wp2_with fail
          refine (works_any _).mono ?_
          rintro e w' ⟨rfl, hb2⟩
          go_wp2
          go_ret
          exact ⟨rfl, hb.trans (hb2.mono hb.size)⟩
      · have he' : ((err : Int) == 0) = false := by rw [beq_eq_false_iff_ne]; omega
        clear he hno
        go_enter Try.func7, Try.ntmps7
        go_wp2_with fail
        refine (isIdent_any s _ HS.out).mono ?_
        rintro e w' ⟨rfl, rfl⟩
        rw [HID.out]
        go_wp2_with fail
        refine (tokenize_any s _ HS.out).mono ?_
        rintro e w1 ⟨A, c, rfl, hc, hown, hb⟩
        rw [HTK.out] at hown hc ⊢
        simp only at hown hc ⊢
        clear hown
        go_wp2_with fail
        refine (risIdent_any s _ HS.out).mono ?_
        rintro e w' ⟨rfl, rfl⟩
        rw [HID.out]
        go_wp2_with fail
        refine (works_any _).mono ?_
        rintro e w' ⟨rfl, hb2⟩
        go_wp2
        go_ret
        exact ⟨rfl, hb.trans (hb2.mono hb.size)⟩
    · have HID := Lib.hid hi
      clear hi
      have hyes : (err = 0 ∧ toks = [⟨1, s.data.toList, 0, 1⟩]) := by
        have := HI.out
        rw [HTK.out, HID.out, eq_comm, decide_eq_true_iff] at this
        exact this
      obtain ⟨rfl, rfl⟩ := hyes
      go_enter Try.func7, Try.ntmps7
      go_wp2_with fail
      refine (isIdent_any s _ HS.out).mono ?_
      rintro e w' ⟨rfl, rfl⟩
      rw [HID.out]
      go_wp2_with fail
      refine (tokenize_any s _ HS.out).mono ?_
      rintro e w1 ⟨A, c, rfl, hc, hown, hb⟩
      rw [HTK.out] at hown hc ⊢
      simp only [List.length_singleton] at hown hc ⊢
      obtain ⟨g, cap, hv, _, hlt⟩ := hown.form (by omega)
      have hA : A = some ⟨g, 0, none⟩ := by injection hv
      subst hA
      have k0 : w1.cell? ⟨g, 0, none⟩ = some (.int .i64 1) := hown.cellAt 0 (by omega)
      have k1 : w1.cell? ⟨g, 1, none⟩ = some (.string s) := hown.cellAt 1 (by omega)
      have k2 : w1.cell? ⟨g, 2, none⟩ = some (.int .u32 0) := hown.cellAt 2 (by omega)
      have k3 : w1.cell? ⟨g, 3, none⟩ = some (.int .i64 1) := hown.cellAt 3 (by omega)
      clear hv hown
      go_wp2_with fail
      refine (risIdent_any s _ HS.out).mono ?_
      rintro e w' ⟨rfl, rfl⟩
      rw [HID.out]
      go_wp2_with fail
      refine (works_any _).mono ?_
      rintro e w' ⟨rfl, hb2⟩
      go_wp2
      go_ret
      exact ⟨rfl, hb.trans (hb2.mono hb.size)⟩

end Go.Proofs.Ytnddfmbgbgiljaa
