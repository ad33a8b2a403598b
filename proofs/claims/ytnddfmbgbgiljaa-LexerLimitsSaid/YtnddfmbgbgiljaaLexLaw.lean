/- Plain laws on tokens: the program's lexer and the reference's agree. No condition. -/
import Derived.Test.YtnddfmbgbgiljaaRefG
namespace Go.Proofs.Ytnddfmbgbgiljaa

theorem numErr_eq (l : List UInt8) : numErr l = if rtooGreat l = true then 9 else 5 := by
  unfold numErr rtooGreat
  by_cases h : 2 < l.length ∧ l.take 2 = [48, 120]
  · rw [if_pos h]
    by_cases h2 : ext isHexd (l.drop 2) = l.length - 2
    · rw [if_pos ⟨h.1, h.2, h2⟩, if_pos (by simpa using h2)]
    · have hh : l.head? = some 48 := by
        match l, h.2 with
        | a :: b :: r, h3 =>
          have h4 : [a, b] = [48, 120] := h3
          injection h4 with h5 h6
          rw [h5]; rfl
      have e : decide (ext isHexd (l.drop 2) = l.length - 2) = false := by simpa using h2
      rw [e, if_neg (fun h3 => h2 h3.2.2), if_neg (fun h3 => h3.1 hh), if_neg (by decide)]
  · rw [if_neg h, if_neg (fun h3 => h ⟨h3.1, h3.2.1⟩)]
    by_cases h1 : l.head? ≠ some 48 ∧ ext isDig l = l.length
    · rw [if_pos h1, if_pos (by rw [Bool.and_eq_true, decide_eq_true_iff, decide_eq_true_iff]; exact ⟨h1.2, h1.1⟩)]
    · rw [if_neg h1, if_neg (by rw [Bool.and_eq_true, decide_eq_true_iff, decide_eq_true_iff]; exact fun h3 => h1 ⟨h3.2, h3.1⟩)]

theorem first_mem {α : Type} [DecidableEq α] {a : α} : ∀ {l : List α}, a ∈ l → ∃ u v, l = u ++ a :: v ∧ a ∉ u
  | b :: l, h => by
    by_cases e : b = a
    · exact ⟨[], l, by rw [e]; rfl, by simp⟩
    · have h' : a ∈ l := by
        rcases List.mem_cons.1 h with h | h
        · exact absurd h.symm e
        · exact h
      obtain ⟨u, v, huv, hn⟩ := first_mem h'
      exact ⟨b :: u, v, by rw [huv]; rfl, by simp [hn, Ne.symm e]⟩
theorem find_twos (l : List UInt8) : twos.find? (fun x => x.isPrefixOf l) = if l.take 2 ∈ twos then some (l.take 2) else none := by
  have h2 : ∀ x ∈ twos, x.length = 2 := by decide +kernel
  by_cases h : l.take 2 ∈ twos
  · rw [if_pos h]
    have hl : 2 ≤ l.length := by
      have := h2 _ h
      rw [List.length_take] at this; omega
    have key : ∀ x ∈ twos, x.isPrefixOf l = (x == l.take 2) := by
      intro x hx
      rw [prefix_take, h2 x hx, Bool.eq_iff_iff, decide_eq_true_iff, beq_iff_eq]
      constructor
      · intro h; exact h.2.symm
      · intro h; exact ⟨hl, h.symm⟩
    generalize l.take 2 = y at h key
    rw [List.find?_eq_some_iff_append]
    obtain ⟨u, v, huv, hn⟩ := first_mem h
    refine ⟨by rw [key y h]; simp, u, v, huv, fun a ha => ?_⟩
    rw [key a (by rw [huv]; exact List.mem_append_left _ ha)]
    simpa using fun e : a = y => hn (e ▸ ha)
  · rw [if_neg h, List.find?_eq_none]
    intro x hx hp
    rw [prefix_take, h2 x hx, decide_eq_true_iff] at hp
    exact h (by rw [hp.2]; exact hx)
theorem find_ones (c : UInt8) (r : List UInt8) : (symList.drop 9).find? (fun x => x.isPrefixOf (c :: r)) = if c ∈ ones then some [c] else none := by
  have e : symList.drop 9 = ones.map fun k => [k] := by decide +kernel
  rw [e, List.find?_map]
  have key : ((fun x : List UInt8 => x.isPrefixOf (c :: r)) ∘ fun k => [k]) = fun k => k == c := by
    funext k; simp [List.isPrefixOf]
  rw [key]
  by_cases h : c ∈ ones
  · rw [if_pos h]
    have : ones.find? (fun k => k == c) = some c := by
      rw [List.find?_eq_some_iff_append]
      obtain ⟨u, v, hab, hn⟩ := first_mem h
      exact ⟨by simp, u, v, hab, fun a ha => by simpa using fun e : a = c => hn (e ▸ ha)⟩
    simp only [this]; rfl
  · rw [if_neg h]
    have : ones.find? (fun k => k == c) = none := by
      rw [List.find?_eq_none]
      intro x hx hp
      rw [beq_iff_eq] at hp
      exact h (hp ▸ hx)
    simp only [this]; rfl
theorem find_sym (c : UInt8) (r : List UInt8) : symList.find? (fun x => x.isPrefixOf (c :: r)) = if sym (c :: r) = 0 then none else some ((c :: r).take (sym (c :: r))) := by
  have e : symList = twos ++ symList.drop 9 := by decide +kernel
  rw [e, List.find?_append, find_twos, find_ones]
  by_cases h : (c :: r).take 2 ∈ twos
  · have hs : sym (c :: r) = 2 := by unfold sym; rw [if_pos h]
    rw [if_pos h, hs]; rfl
  · rw [if_neg h, sym_cons c r h]
    by_cases h1 : c ∈ ones
    · rw [if_pos h1, if_pos h1, if_neg (by omega)]; rfl
    · rw [if_neg h1, if_neg h1, if_pos rfl]; rfl

/-- the program's next token is the reference's -/
theorem next_first (c : UInt8) (r : List UInt8) : (nextM (c :: r)).2 = checkM (firstM (c :: r)) ∧ (checkM (firstM (c :: r)) = 0 → (nextM (c :: r)).1 = firstM (c :: r)) := by
  simp only [nextM, firstM]
  by_cases h1 : isLet c.toNat = true
  · rw [if_pos h1, if_pos h1]
    have hl : ((c :: r).take (ext isWord (c :: r))).length = ext isWord (c :: r) := by
      have := ext_le isWord (c :: r)
      rw [List.length_take]; omega
    simp only [checkM, if_true, hl]
    split <;> simp
  · rw [if_neg h1, if_neg h1]
    by_cases h2 : isDig c.toNat = true
    · rw [if_pos h2, if_pos h2]
      rcases hv : pu32 ((c :: r).take (ext isAlnum (c :: r))) with _ | v
      · have e : checkM ⟨2, (c :: r).take (ext isAlnum (c :: r)), (none : Option Nat).getD 0, 0⟩ = numErr ((c :: r).take (ext isAlnum (c :: r))) := by
          rw [checkM, if_neg (show ¬ (2 : Nat) = 1 by decide), if_pos rfl, numErr_eq, hv]
        rw [e]
        refine ⟨rfl, fun h => ?_⟩
        exfalso
        rw [numErr_eq] at h
        split at h <;> cases h
      · simp [checkM, hv]
    · rw [if_neg h2, if_neg h2, find_sym]
      by_cases h3 : sym (c :: r) = 0
      · rw [if_pos h3, if_pos h3]; simp [checkM, Tk.zero]
      · rw [if_neg h3, if_neg h3]; simp [checkM]

theorem rtok_comment : ∀ (n m : Nat) (l : List UInt8) (at_ : Nat) (out : List Tk), l.length ≤ n → l.length ≤ m → rtokM n l at_ true out = rtokM m (l.drop (ext notNl l)) at_ false out
  | 0, m, [], at_, out, _, _ => by cases m <;> rfl
  | n + 1, m, [], at_, out, _, _ => by cases m <;> rfl
  | 0, _, _ :: _, _, _, h, _ => by simp at h
  | n + 1, 0, _ :: _, _, _, _, h => by simp at h
  | n + 1, m + 1, c :: r, at_, out, hn, hm => by
    have hn' : r.length ≤ n := by simpa using hn
    have hm' : r.length ≤ m := by simpa using hm
    by_cases hc : c = 10
    · subst hc
      have e : ext notNl (10 :: r) = 0 := by rw [ext, if_neg (by decide)]
      rw [e, List.drop_zero, rtokM, rtokM, if_pos rfl, if_pos rfl]
      exact rtokM_fuel _ _ _ _ _ _ hn' hm'
    · have e : ext notNl (c :: r) = ext notNl r + 1 := by
        rw [ext, if_pos]
        show ((c.toNat : Int) != 10) = true
        rw [bne_iff_ne]
        intro e
        exact hc (UInt8.toNat_inj.1 (by show c.toNat = 10; omega))
      rw [e, List.drop_succ_cons, rtokM, if_neg hc, if_pos (.inl rfl)]
      exact rtok_comment n (m + 1) r at_ out hn' (by omega)

theorem tok_rtok : ∀ (n : Nat) (l : List UInt8) (at_ : Nat) (out : List Tk), l.length ≤ n → tokM n l at_ out = rtokM n l at_ false out
  | 0, _, _, _, _ => rfl
  | n + 1, [], _, _, _ => rfl
  | n + 1, c :: r, at_, out, hn => by
    have hn' : r.length ≤ n := by simpa using hn
    rw [tokM, rtokM]
    by_cases h1 : c = 10
    · rw [if_pos h1, if_pos h1]; exact tok_rtok n r _ _ hn'
    · rw [if_neg h1, if_neg h1]
      by_cases h3 : c = 35
      · rw [if_neg (by subst h3; decide), if_pos h3, if_pos (.inr h3)]
        have e : ext notNl (c :: r) = ext notNl r + 1 := by rw [ext, if_pos (by subst h3; decide)]
        rw [e, List.drop_succ_cons, rtok_comment n n r at_ out hn' hn']
        exact tok_rtok n _ _ _ (by rw [List.length_drop]; omega)
      · rw [if_neg (show ¬ (false = true ∨ c = 35) by simp [h3])]
        by_cases h2 : c = 32 ∨ c = 9
        · rw [if_pos h2, if_pos h2]; exact tok_rtok n r _ _ hn'
        · rw [if_neg h2, if_neg h2, if_neg h3]
          by_cases h4 : 4096 ≤ out.length
          · rw [if_pos h4, if_pos h4]
          · rw [if_neg h4, if_neg h4]
            obtain ⟨e1, e2⟩ := next_first c r
            rw [e1]
            by_cases h5 : checkM (firstM (c :: r)) = 0
            · rw [if_pos h5, if_pos h5, e2 h5]
              have hp := check_pos (c :: r) (by simp) h5
              exact tok_rtok n _ _ _ (by rw [List.length_drop]; simp only [List.length_cons]; omega)
            · rw [if_neg h5, if_neg h5]
theorem tokenize_eq (l : List UInt8) : tokenize l = rtokenize l := by
  unfold tokenize rtokenize
  rw [tok_rtok _ _ _ _ (Nat.le_refl _)]

end Go.Proofs.Ytnddfmbgbgiljaa
