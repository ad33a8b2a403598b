/- The law LexerCovers: the plain part. No condition. -/
import Derived.Test.YtnddfmbgbgiljaaLawC
import Derived.Test.YtnddfmbgbgiljaaBytes
namespace Go.Proofs.Ytnddfmbgbgiljaa
open Go.RowKit

/-- a text without its separators and comments -/
def strip : Bool → List UInt8 → List UInt8
  | _, [] => []
  | cm, c :: r =>
    if ((cm && c != 10) || c == 35) = true then strip true r
    else if c = 32 ∨ c = 9 ∨ c = 10 then strip false r else c :: strip false r
def texts (l : List Tk) : List UInt8 := l.flatMap (·.text)
/-- the lines do not decrease and no text is empty -/
def linesOk : Nat → List Tk → Prop
  | _, [] => True
  | n, t :: l => n ≤ t.line ∧ t.text ≠ [] ∧ linesOk t.line l
theorem strip_cm : ∀ l : List UInt8, strip true l = strip false (l.drop (ext notNl l))
  | [] => rfl
  | c :: r => by
    by_cases hc : c = 10
    · subst hc
      have e : ext notNl (10 :: r) = 0 := by rw [ext, if_neg (by decide)]
      rw [e, List.drop_zero]; rfl
    · have e : ext notNl (c :: r) = ext notNl r + 1 := by
        rw [ext, if_pos]
        show ((c.toNat : Int) != 10) = true
        rw [bne_iff_ne]
        intro e
        exact hc (UInt8.toNat_inj.1 (by show c.toNat = 10; omega))
      rw [e, List.drop_succ_cons, strip, if_pos (by simp [hc]), strip_cm r]
theorem strip_len : ∀ (cm : Bool) (l : List UInt8), (strip cm l).length ≤ l.length
  | _, [] => by simp [strip]
  | cm, c :: r => by
    rw [strip]
    split
    · exact Nat.le_trans (strip_len _ r) (by simp)
    · split
      · exact Nat.le_trans (strip_len _ r) (by simp)
      · have := strip_len false r
        simp only [List.length_cons]; omega
def plainByte (c : UInt8) : Bool := c != 35 && c != 32 && c != 9 && c != 10
theorem strip_plain : ∀ (l r : List UInt8), l.all plainByte = true → strip false (l ++ r) = l ++ strip false r
  | [], r, _ => rfl
  | c :: l, r, h => by
    simp only [List.all_cons, Bool.and_eq_true, plainByte, bne_iff_ne] at h
    obtain ⟨⟨⟨⟨h1, h2⟩, h3⟩, h4⟩, h5⟩ := h
    rw [List.cons_append, strip, if_neg (by simp [h1]), if_neg (by simp [h2, h3, h4]), strip_plain l r h5]; rfl
theorem plain_word {c : UInt8} (h : isWord c.toNat = true) : plainByte c = true := by
  have key : ∀ x : Fin 256, isWord (UInt8.ofNat x).toNat = true → plainByte (UInt8.ofNat x) = true := by decide +kernel
  have := key ⟨c.toNat, c.toNat_lt⟩
  simp only [UInt8.ofNat_toNat] at this
  exact this h
theorem ext_take_all {p : Int → Bool} {q : UInt8 → Bool} (hpq : ∀ c : UInt8, p c.toNat = true → q c = true) : ∀ l : List UInt8, (l.take (ext p l)).all q = true
  | [] => rfl
  | c :: l => by
    by_cases h : p c.toNat = true
    · rw [ext, if_pos h, List.take_succ_cons, List.all_cons, hpq c h, ext_take_all hpq l]; rfl
    · rw [ext, if_neg h]; rfl
theorem alnum_word {c : UInt8} (h : isAlnum c.toNat = true) : isWord c.toNat = true := by
  unfold isAlnum at h; unfold isWord; rw [h]; rfl
theorem sym_plain (l : List UInt8) : (l.take (sym l)).all plainByte = true := by
  by_cases h : l.take 2 ∈ twos
  · have hs : sym l = 2 := by unfold sym; rw [if_pos h]
    rw [hs]
    have key : ∀ x ∈ twos, x.all plainByte = true := by decide +kernel
    exact key _ h
  · match l, h with
    | [], _ => simp
    | c :: r, h =>
      rw [sym_cons c r h]
      by_cases h1 : c ∈ ones
      · rw [if_pos h1]
        have key : ∀ x ∈ ones, plainByte x = true := by decide +kernel
        simp [key c h1]
      · rw [if_neg h1]; rfl
theorem nextM_text (l : List UInt8) (h : (nextM l).2 = 0) : (nextM l).1.text = l.take (nextM l).1.text.length ∧ (nextM l).1.text.all plainByte = true := by
  have key : ∀ k, k ≤ l.length → l.take k = l.take (l.take k).length := by
    intro k hk; rw [List.length_take, Nat.min_eq_left hk]
  match l, h, key with
  | [], h, _ => cases h
  | c :: r, h, key =>
    simp only [nextM] at h ⊢
    by_cases h1 : isLet c.toNat = true
    · rw [if_pos h1] at h ⊢
      split at h
      · cases h
      · rename_i h2; rw [if_neg h2]
        exact ⟨key _ (ext_le _ _), ext_take_all (fun c hc => plain_word hc) _⟩
    · rw [if_neg h1] at h ⊢
      by_cases h2 : isDig c.toNat = true
      · rw [if_pos h2] at h ⊢
        rcases hv : pu32 ((c :: r).take (ext isAlnum (c :: r))) with _ | v
        · rw [hv] at h
          simp only [numErr_eq] at h
          split at h <;> cases h
        · simp only
          exact ⟨key _ (ext_le _ _), ext_take_all (fun c hc => plain_word (alnum_word hc)) _⟩
      · rw [if_neg h2] at h ⊢
        split at h
        · cases h
        · rename_i h3; rw [if_neg h3]
          exact ⟨key _ (sym_le _), sym_plain _⟩
theorem tokM_covers : ∀ (n : Nat) (l : List UInt8) (at_ : Nat) (out : List Tk), l.length ≤ n → (tokM n l at_ out).2.2 = 0 →
    ∃ ts, (tokM n l at_ out).1 = out ++ ts ∧ texts ts = strip false l ∧ linesOk at_ ts
  | 0, [], _, out, _, _ => ⟨[], by simp [tokM], rfl, trivial⟩
  | 0, _ :: _, _, _, h, _ => by simp at h
  | n + 1, [], _, out, _, _ => ⟨[], by simp [tokM], rfl, trivial⟩
  | n + 1, c :: r, at_, out, hn, h => by
    have hn' : r.length ≤ n := by simpa using hn
    rw [tokM] at h ⊢
    by_cases h1 : c = 10
    · rw [if_pos h1] at h ⊢
      obtain ⟨ts, e1, e2, e3⟩ := tokM_covers n r _ _ hn' h
      refine ⟨ts, e1, ?_, ?_⟩
      · rw [e2, strip, if_neg (by subst h1; decide), if_pos (.inr (.inr h1))]
      · match ts, e3 with
        | [], _ => trivial
        | t :: ts, e3 => exact ⟨by have := e3.1; omega, e3.2⟩
    · rw [if_neg h1] at h ⊢
      by_cases h2 : c = 32 ∨ c = 9
      · rw [if_pos h2] at h ⊢
        obtain ⟨ts, e1, e2, e3⟩ := tokM_covers n r _ _ hn' h
        refine ⟨ts, e1, ?_, e3⟩
        rw [e2, strip, if_neg (by rcases h2 with rfl | rfl <;> decide), if_pos (by rcases h2 with h2 | h2; exact .inl h2; exact .inr (.inl h2))]
      · rw [if_neg h2] at h ⊢
        by_cases h3 : c = 35
        · rw [if_pos h3] at h ⊢
          have e : ext notNl (c :: r) = ext notNl r + 1 := by rw [ext, if_pos (by subst h3; decide)]
          obtain ⟨ts, e1, e2, e3⟩ := tokM_covers n _ _ _ (by rw [e, List.drop_succ_cons, List.length_drop]; omega) h
          refine ⟨ts, e1, ?_, e3⟩
          rw [e2, strip, if_pos (by subst h3; decide), strip_cm, e, List.drop_succ_cons]
        · rw [if_neg h3] at h ⊢
          by_cases h4 : 4096 ≤ out.length
          · rw [if_pos h4] at h; cases h
          · rw [if_neg h4] at h ⊢
            by_cases h5 : (nextM (c :: r)).2 = 0
            · rw [if_pos h5] at h ⊢
              have hp := nextM_len (c :: r) h5
              obtain ⟨ht1, ht2⟩ := nextM_text (c :: r) h5
              obtain ⟨ts, e1, e2, e3⟩ := tokM_covers n _ _ _ (by rw [List.length_drop]; simp only [List.length_cons]; omega) h
              refine ⟨{ (nextM (c :: r)).1 with line := at_ } :: ts, by rw [e1, List.append_assoc]; rfl, ?_, Nat.le_refl _, ?_, e3⟩
              · show (nextM (c :: r)).1.text ++ texts ts = _
                rw [e2]
                conv => rhs; rw [← List.take_append_drop (nextM (c :: r)).1.text.length (c :: r), ← ht1, strip_plain _ _ ht2]
              · intro e
                have e' : (nextM (c :: r)).1.text = [] := e
                rw [e'] at hp
                exact absurd hp.1 (Nat.lt_irrefl 0)
            · rw [if_neg h5] at h; exact absurd h h5
theorem tokenize_covers (l : List UInt8) (h : (tokenize l).2.2 = 0) : texts (tokenize l).1 = strip false l ∧ linesOk 1 (tokenize l).1 := by
  unfold tokenize at h ⊢
  split at h
  · cases h
  · rename_i hl
    rw [if_neg hl]
    obtain ⟨ts, e1, e2, e3⟩ := tokM_covers l.length l 1 [] (Nat.le_refl _) h
    rw [e1]
    exact ⟨by simpa using e2, by simpa using e3⟩
theorem linesOk_at : ∀ (l : List Tk) (n i : Nat) (h : i < l.length), linesOk n l → (l[i]'h).text ≠ [] ∧ n ≤ (l[i]'h).line ∧ linesOk (l[i]'h).line (l.drop (i + 1))
  | t :: l, n, 0, _, h => ⟨h.2.1, h.1, h.2.2⟩
  | t :: l, n, i + 1, h, hl => by
    have := linesOk_at l t.line i (by simpa using h) hl.2.2
    have h1 := hl.1
    refine ⟨this.1, ?_, this.2.2⟩
    show n ≤ (l[i]'(by simpa using h)).line
    have h2 := this.2.1
    exact Nat.le_trans h1 h2
theorem linesOk_drop {l : List Tk} {n i : Nat} (h : i < l.length) (hl : linesOk n (l.drop i)) : (l[i]'h).text ≠ [] ∧ n ≤ (l[i]'h).line ∧ linesOk (l[i]'h).line (l.drop (i + 1)) := by
  rw [List.drop_eq_getElem_cons h] at hl
  exact ⟨hl.2.1, hl.1, hl.2.2⟩
theorem texts_take {l : List Tk} {i : Nat} (h : i < l.length) : texts (l.take (i + 1)) = texts (l.take i) ++ (l[i]'h).text := by
  unfold texts
  rw [List.take_succ_eq_append_getElem h, List.flatMap_append]
  congr 1
  simp
theorem texts_le (l : List Tk) (i : Nat) : (texts (l.take i)).length ≤ (texts l).length := by
  unfold texts
  conv => rhs; rw [← List.take_append_drop i l, List.flatMap_append, List.length_append]
  exact Nat.le_add_right _ _

end Go.Proofs.Ytnddfmbgbgiljaa
