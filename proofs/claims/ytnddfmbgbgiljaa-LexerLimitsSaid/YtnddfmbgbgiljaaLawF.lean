/- The law LexerLines: the plain part. No condition. -/
import Derived.Test.YtnddfmbgbgiljaaLawE
namespace Go.Proofs.Ytnddfmbgbgiljaa
open Go.RowKit

def Tk.shift (k : Nat) (t : Tk) : Tk := { t with line := t.line + k }
/-- how many line breaks a text has -/
def nls : List UInt8 → Nat
  | [] => 0
  | c :: r => if c = 10 then nls r + 1 else nls r
theorem nls_snoc : ∀ (l : List UInt8) (c : UInt8), nls (l ++ [c]) = nls l + if c = 10 then 1 else 0
  | [], c => by simp only [List.nil_append, nls]; split <;> rfl
  | x :: l, c => by
    simp only [List.cons_append, nls, nls_snoc l c]
    split <;> omega
theorem nls_le : ∀ l : List UInt8, nls l ≤ l.length
  | [] => Nat.le_refl _
  | c :: l => by
    have := nls_le l
    simp only [nls, List.length_cons]; split <;> omega

/-- the same text at another line and behind other tokens -/
theorem tokM_shift : ∀ (n : Nat) (l : List UInt8) (at_ k : Nat) (o1 o2 : List Tk), l.length ≤ n → o1.length + l.length < 4096 → o2.length + l.length < 4096 →
    ((tokM n l at_ o1).2.2 = 0 ∧ ∃ ts, tokM n l at_ o1 = (o1 ++ ts, 0, 0) ∧ tokM n l (at_ + k) o2 = (o2 ++ ts.map (Tk.shift k), 0, 0)) ∨
    (∃ ln er, er ≠ 0 ∧ tokM n l at_ o1 = ([], ln, er) ∧ tokM n l (at_ + k) o2 = ([], ln + k, er))
  | 0, [], at_, k, o1, o2, _, _, _ => .inl ⟨rfl, [], by simp [tokM], by simp [tokM]⟩
  | 0, _ :: _, _, _, _, _, h, _, _ => by simp at h
  | n + 1, [], at_, k, o1, o2, _, _, _ => .inl ⟨rfl, [], by simp [tokM], by simp [tokM]⟩
  | n + 1, c :: r, at_, k, o1, o2, hn, h1, h2 => by
    have hn' : r.length ≤ n := by simpa using hn
    simp only [List.length_cons] at h1 h2
    rw [tokM, tokM]
    by_cases e1 : c = 10
    · rw [if_pos e1, if_pos e1]
      have := tokM_shift n r (at_ + 1) k o1 o2 hn' (by omega) (by omega)
      rw [show at_ + 1 + k = at_ + k + 1 from by omega] at this
      exact this
    · rw [if_neg e1, if_neg e1]
      by_cases e2 : c = 32 ∨ c = 9
      · rw [if_pos e2, if_pos e2]; exact tokM_shift n r at_ k o1 o2 hn' (by omega) (by omega)
      · rw [if_neg e2, if_neg e2]
        by_cases e3 : c = 35
        · rw [if_pos e3, if_pos e3]
          have e : ext notNl (c :: r) = ext notNl r + 1 := by rw [ext, if_pos (by subst e3; decide)]
          rw [e, List.drop_succ_cons]
          exact tokM_shift n _ at_ k o1 o2 (by rw [List.length_drop]; omega) (by rw [List.length_drop]; omega) (by rw [List.length_drop]; omega)
        · rw [if_neg e3, if_neg e3, if_neg (show ¬ 4096 ≤ o1.length by omega), if_neg (show ¬ 4096 ≤ o2.length by omega)]
          by_cases e5 : (nextM (c :: r)).2 = 0
          · rw [if_pos e5, if_pos e5]
            have hp := nextM_len (c :: r) e5
            simp only [List.length_cons] at hp
            have ih := tokM_shift n ((c :: r).drop (nextM (c :: r)).1.text.length) at_ k (o1 ++ [{ (nextM (c :: r)).1 with line := at_ }]) (o2 ++ [{ (nextM (c :: r)).1 with line := at_ + k }])
              (by rw [List.length_drop]; simp only [List.length_cons]; omega) (by rw [List.length_drop]; simp only [List.length_append, List.length_cons, List.length_nil]; omega) (by rw [List.length_drop]; simp only [List.length_append, List.length_cons, List.length_nil]; omega)
            rcases ih with ⟨h0, ts, a1, a2⟩ | ⟨ln, er, a0, a1, a2⟩
            · refine .inl ⟨h0, { (nextM (c :: r)).1 with line := at_ } :: ts, ?_, ?_⟩
              · rw [a1, List.append_assoc]; rfl
              · rw [a2, List.append_assoc]; rfl
            · exact .inr ⟨ln, er, a0, a1, a2⟩
          · rw [if_neg e5, if_neg e5]
            exact .inr ⟨at_, _, e5, rfl, rfl⟩

theorem ext_nl_app {p : Int → Bool} (hp : p 10 = false) (b : List UInt8) : ∀ x : List UInt8, ext p (x ++ 10 :: b) = ext p x
  | [] => by
    have h : ext p (10 :: b) = 0 := by
      unfold ext
      rw [if_neg]
      rw [show (((10 : UInt8).toNat : Nat) : Int) = 10 from rfl, hp]; decide
    exact h
  | c :: x => by
    rw [List.cons_append, ext, ext, ext_nl_app hp b x]
theorem take_ext_app (p : Int → Bool) (x b : List UInt8) : (x ++ b).take (ext p x) = x.take (ext p x) := by
  rw [List.take_append_of_le_length (ext_le p x)]
theorem sym_nl (c : UInt8) (x b : List UInt8) : sym (c :: x ++ 10 :: b) = sym (c :: x) := by
  match x with
  | [] =>
    have h1 : (c :: ([] ++ 10 :: b)).take 2 ∉ twos := by
      intro h
      have h' : [c, 10] ∈ twos := h
      simp [twos] at h'
    rw [List.cons_append, sym_cons c _ h1, sym_cons c [] (by simp [twos])]
  | d :: x =>
    have e : (c :: d :: x ++ 10 :: b).take 2 = (c :: d :: x).take 2 := rfl
    by_cases h : (c :: d :: x).take 2 ∈ twos
    · unfold sym; rw [e, if_pos h, if_pos h]
    · rw [List.cons_append, sym_cons c _ (by rw [← List.cons_append, e]; exact h), sym_cons c _ h]
theorem nextM_nl (c : UInt8) (x b : List UInt8) : nextM (c :: x ++ 10 :: b) = nextM (c :: x) := by
  have w := ext_nl_app (p := isWord) (by decide) b (c :: x)
  have a := ext_nl_app (p := isAlnum) (by decide) b (c :: x)
  have s := sym_nl c x b
  have tw := take_ext_app isWord (c :: x) (10 :: b)
  have ta := take_ext_app isAlnum (c :: x) (10 :: b)
  have ts : (c :: x ++ 10 :: b).take (sym (c :: x)) = (c :: x).take (sym (c :: x)) := by rw [List.take_append_of_le_length (sym_le _)]
  simp only [List.cons_append] at *
  simp only [nextM, w, a, s, tw, ta, ts]

theorem nls_drop : ∀ x : List UInt8, nls (x.drop (ext notNl x)) = nls x
  | [] => rfl
  | c :: x => by
    by_cases hc : c = 10
    · have e : ext notNl (c :: x) = 0 := by rw [ext, if_neg (by subst hc; decide)]
      rw [e, List.drop_zero]
    · have e : ext notNl (c :: x) = ext notNl x + 1 := by
        rw [ext, if_pos]
        show ((c.toNat : Int) != 10) = true
        rw [bne_iff_ne]
        intro e
        exact hc (UInt8.toNat_inj.1 (by show c.toNat = 10; omega))
      rw [e, List.drop_succ_cons, nls_drop x, nls, if_neg hc]
theorem nls_plain : ∀ (l r : List UInt8), l.all plainByte = true → nls (l ++ r) = nls r
  | [], r, _ => rfl
  | c :: l, r, h => by
    simp only [List.all_cons, Bool.and_eq_true, plainByte, bne_iff_ne] at h
    rw [List.cons_append, nls, if_neg h.1.2, nls_plain l r h.2]

/-- a text, a line break, another text -/
theorem tokM_nl : ∀ (n : Nat) (x b : List UInt8) (at_ : Nat) (out : List Tk), x.length + b.length + 1 ≤ n → out.length + x.length < 4096 →
    ((tokM n x at_ out).2.2 = 0 ∧ ∃ ts, tokM n x at_ out = (out ++ ts, 0, 0) ∧ ts.length ≤ x.length ∧ tokM n (x ++ 10 :: b) at_ out = tokM n b (at_ + nls x + 1) (out ++ ts)) ∨
    (∃ ln er, er ≠ 0 ∧ tokM n x at_ out = ([], ln, er) ∧ tokM n (x ++ 10 :: b) at_ out = ([], ln, er))
  | 0, _, _, _, _, h, _ => by omega
  | n + 1, [], b, at_, out, hn, h1 => by
    refine .inl ⟨rfl, [], by simp [tokM], Nat.le_refl _, ?_⟩
    rw [List.nil_append, tokM, if_pos rfl, List.append_nil]
    simp only [List.length_nil] at hn
    exact tokM_fuel _ _ _ _ _ (by omega) (by omega)
  | n + 1, c :: x, b, at_, out, hn, h1 => by
    simp only [List.length_cons] at hn h1
    have hfuel : ∀ (m : Nat) (o : List Tk), tokM n b m o = tokM (n + 1) b m o := fun m o => tokM_fuel _ _ _ _ _ (by omega) (by omega)
    rw [List.cons_append, tokM, tokM]
    by_cases e1 : c = 10
    · rw [if_pos e1, if_pos e1]
      have := tokM_nl n x b (at_ + 1) out (by omega) (by omega)
      rw [nls, if_pos e1]
      rcases this with ⟨h0, ts, a1, a2, a3⟩ | h
      · exact .inl ⟨h0, ts, a1, by simp only [List.length_cons]; omega, by rw [a3, ← hfuel, show at_ + 1 + nls x + 1 = at_ + (nls x + 1) + 1 from by omega]⟩
      · exact .inr h
    · rw [if_neg e1, if_neg e1]
      rw [nls, if_neg e1]
      by_cases e2 : c = 32 ∨ c = 9
      · rw [if_pos e2, if_pos e2]
        rcases tokM_nl n x b at_ out (by omega) (by omega) with ⟨h0, ts, a1, a2, a3⟩ | h
        · exact .inl ⟨h0, ts, a1, by simp only [List.length_cons]; omega, by rw [a3, ← hfuel]⟩
        · exact .inr h
      · rw [if_neg e2, if_neg e2]
        by_cases e3 : c = 35
        · rw [if_pos e3, if_pos e3]
          have e : ext notNl (c :: x) = ext notNl x + 1 := by rw [ext, if_pos (by subst e3; decide)]
          have e' := ext_nl_app (p := notNl) (by decide) b (c :: x)
          rw [List.cons_append] at e'
          have hle := ext_le notNl x
          rw [e', e, List.drop_succ_cons, List.drop_succ_cons, List.drop_append_of_le_length hle]
          have hnl : nls (x.drop (ext notNl x)) = nls x := nls_drop x
          rcases tokM_nl n (x.drop (ext notNl x)) b at_ out (by rw [List.length_drop]; omega) (by rw [List.length_drop]; omega) with ⟨h0, ts, a1, a2, a3⟩ | h
          · exact .inl ⟨h0, ts, a1, by rw [List.length_drop] at a2; simp only [List.length_cons]; omega, by rw [a3, ← hfuel, hnl]⟩
          · exact .inr h
        · have e4 : ¬ 4096 ≤ out.length := by omega
          rw [if_neg e3, if_neg e3, if_neg e4, if_neg e4]
          have hnx := nextM_nl c x b
          rw [List.cons_append] at hnx
          rw [hnx]
          by_cases e5 : (nextM (c :: x)).2 = 0
          · rw [if_pos e5, if_pos e5]
            have hp := nextM_len (c :: x) e5
            simp only [List.length_cons] at hp
            have ht := nextM_text (c :: x) e5
            have hd : (c :: (x ++ 10 :: b)).drop (nextM (c :: x)).1.text.length = (c :: x).drop (nextM (c :: x)).1.text.length ++ 10 :: b := by
              rw [← List.cons_append, List.drop_append_of_le_length (by simp only [List.length_cons]; omega)]
            rw [hd]
            have hnl : nls ((c :: x).drop (nextM (c :: x)).1.text.length) = nls x := by
              have h1 : nls (c :: x) = nls x := by rw [nls, if_neg e1]
              rw [← h1]
              conv => rhs; rw [← List.take_append_drop (nextM (c :: x)).1.text.length (c :: x), ← ht.1, nls_plain _ _ ht.2]
            rcases tokM_nl n ((c :: x).drop (nextM (c :: x)).1.text.length) b at_ (out ++ [{ (nextM (c :: x)).1 with line := at_ }]) (by rw [List.length_drop]; simp only [List.length_cons]; omega)
                (by rw [List.length_drop]; simp only [List.length_append, List.length_cons, List.length_nil]; omega) with ⟨h0, ts, a1, a2, a3⟩ | h
            · refine .inl ⟨h0, { (nextM (c :: x)).1 with line := at_ } :: ts, by rw [a1, List.append_assoc]; rfl, by rw [List.length_drop] at a2; simp only [List.length_cons] at a2 ⊢; omega, ?_⟩
              rw [a3, ← hfuel, hnl, List.append_assoc]; rfl
            · exact .inr h
          · rw [if_neg e5, if_neg e5]
            exact .inr ⟨at_, _, e5, rfl, rfl⟩

end Go.Proofs.Ytnddfmbgbgiljaa
