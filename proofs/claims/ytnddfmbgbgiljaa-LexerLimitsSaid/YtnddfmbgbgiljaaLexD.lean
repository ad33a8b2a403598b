/- Walks of the lexer's Tokenize and IsIdentifier. No condition but the length of the text. -/
import Derived.Test.YtnddfmbgbgiljaaLexC
namespace Go.Proofs.Ytnddfmbgbgiljaa
open Go.RowKit

def notNl (c : Int) : Bool := c != 10
def tokM : Nat → List UInt8 → Nat → List Tk → List Tk × Nat × Nat
  | 0, _, _, out => (out, 0, 0)
  | n + 1, l, at_, out => match l with
    | [] => (out, 0, 0)
    | c :: r =>
      if c = 10 then tokM n r (at_ + 1) out
      else if c = 32 ∨ c = 9 then tokM n r at_ out
      else if c = 35 then tokM n ((c :: r).drop (ext notNl (c :: r))) at_ out
      else if 4096 ≤ out.length then ([], at_, 12)
      else if (nextM (c :: r)).2 = 0 then tokM n ((c :: r).drop (nextM (c :: r)).1.text.length) at_ (out ++ [{ (nextM (c :: r)).1 with line := at_ }])
      else ([], at_, (nextM (c :: r)).2)
def tokenize (l : List UInt8) : List Tk × Nat × Nat := if 16384 < l.length then ([], 0, 4) else tokM l.length l 1 []

theorem sym_le (l : List UInt8) : sym l ≤ l.length := by
  unfold sym
  split
  · rename_i h
    match l, h with
    | [], h => simp [twos] at h
    | [a], h => simp [twos] at h
    | _ :: _ :: _, _ => simp
  · split
    · exact Nat.zero_le _
    · split <;> simp
theorem isWord_let {c : Int} (h : isLet c = true) : isWord c = true := by rw [isWord, h]; rfl
theorem nextM_len (l : List UInt8) (h : (nextM l).2 = 0) : 0 < (nextM l).1.text.length ∧ (nextM l).1.text.length ≤ l.length := by
  match l, h with
  | [], h => cases h
  | c :: r, h =>
    simp only [nextM] at h ⊢
    by_cases h1 : isLet c.toNat = true
    · rw [if_pos h1] at h ⊢
      by_cases h2 : 16 < ext isWord (c :: r)
      · rw [if_pos h2] at h; cases h
      · rw [if_neg h2]
        have h3 : 0 < ext isWord (c :: r) := by rw [ext, if_pos (isWord_let h1)]; omega
        have h4 := ext_le isWord (c :: r)
        show 0 < (List.take _ _).length ∧ (List.take _ _).length ≤ _
        rw [List.length_take]; omega
    · rw [if_neg h1] at h ⊢
      by_cases h2 : isDig c.toNat = true
      · rw [if_pos h2] at h ⊢
        have h3 : 0 < ext isAlnum (c :: r) := by rw [ext, if_pos (by rw [isAlnum, h2, Bool.or_true])]; omega
        have h4 := ext_le isAlnum (c :: r)
        rcases hv : pu32 ((c :: r).take (ext isAlnum (c :: r))) with _ | v
        · rw [hv] at h
          simp only at h
          exfalso
          unfold numErr at h
          split at h
          · cases h
          · split at h <;> cases h
        · simp only
          rw [List.length_take]; omega
      · rw [if_neg h2] at h ⊢
        by_cases h5 : sym (c :: r) = 0
        · rw [if_pos h5] at h; cases h
        · rw [if_neg h5]
          have h4 := sym_le (c :: r)
          show 0 < (List.take _ _).length ∧ (List.take _ _).length ≤ _
          rw [List.length_take]; omega

theorem tokM_fuel : ∀ (n m : Nat) (l : List UInt8) (at_ : Nat) (out : List Tk), l.length ≤ n → l.length ≤ m → tokM n l at_ out = tokM m l at_ out
  | 0, 0, _, _, _, _, _ => rfl
  | 0, m + 1, [], _, _, _, _ => rfl
  | n + 1, 0, [], _, _, _, _ => rfl
  | 0, m + 1, c :: r, _, _, h, _ => by simp at h
  | n + 1, 0, c :: r, _, _, _, h => by simp at h
  | n + 1, m + 1, [], _, _, _, _ => rfl
  | n + 1, m + 1, c :: r, at_, out, hn, hm => by
    have hn' : r.length ≤ n := by simpa using hn
    have hm' : r.length ≤ m := by simpa using hm
    simp only [tokM]
    split
    · exact tokM_fuel n m r _ _ hn' hm'
    · split
      · exact tokM_fuel n m r _ _ hn' hm'
      · split
        · rename_i h1 _ h3
          have hx : 0 < ext notNl (c :: r) := by rw [ext, if_pos (by subst h3; decide)]; omega
          refine tokM_fuel n m _ _ _ ?_ ?_ <;> (rw [List.length_drop]; simp only [List.length_cons]; omega)
        · split
          · rfl
          · split
            · rename_i h0
              have hx := (nextM_len (c :: r) h0).1
              refine tokM_fuel n m _ _ _ ?_ ?_ <;> (rw [List.length_drop]; simp only [List.length_cons]; omega)
            · rfl

def tkCells (l : List Tk) : List Value := l.flatMap fun t => t.cells.toList
theorem tkCells_snoc (l : List Tk) (t : Tk) : tkCells (l ++ [t]) = tkCells l ++ t.cells.toList := by simp [tkCells]

end Go.Proofs.Ytnddfmbgbgiljaa
