/- Plain laws on numbers and their texts: the program's parser and the reference's agree. No condition. -/
import Derived.Test.YtnddfmbgbgiljaaDoorRefB
namespace Go.Proofs.YtnddfmbgbgiljaaDoor

theorem decF_snoc : ∀ (l : List UInt8) (acc : Nat) (c : UInt8), decF acc (l ++ [c]) = match decF acc l with
    | none => none
    | some n => if 48 ≤ c.toNat ∧ c.toNat ≤ 57 then some (10 * n + (c.toNat - 48)) else none
  | [], acc, c => by simp only [List.nil_append, decF]
  | x :: l, acc, c => by
    simp only [List.cons_append, decF]
    split
    · exact decF_snoc l _ c
    · rfl
theorem decF_ge : ∀ (l : List UInt8) (acc v : Nat), decF acc l = some v → acc ≤ v
  | [], acc, v, h => by rw [decF] at h; injection h with h; omega
  | c :: l, acc, v, h => by
    rw [decF] at h
    split at h
    · have := decF_ge l _ v h; omega
    · cases h
theorem dbyte_of {c : UInt8} (h : 48 ≤ c.toNat ∧ c.toNat ≤ 57) : dbyte (c.toNat - 48) = c := by
  apply UInt8.toNat_inj.1
  rw [dbyte_nat (by omega)]; omega
theorem snoc_cases (l : List UInt8) : l = [] ∨ ∃ r c, l = r ++ [c] := by
  rcases List.eq_nil_or_concat l with h | ⟨r, c, h⟩
  · exact .inl h
  · exact .inr ⟨r, c, by simpa using h⟩
def headNz : List UInt8 → Bool
  | [] => false
  | c :: _ => c != 48
theorem canon_two {l : List UInt8} (h : 2 ≤ l.length) : canon l = headNz l := by
  match l, h with
  | _ :: _ :: _, _ => rfl
theorem headNz_app {l r : List UInt8} (h : l ≠ []) : headNz (l ++ r) = headNz l := by
  match l, h with
  | _ :: _, _ => rfl
theorem decF_pos {l : List UInt8} {v : Nat} (h : headNz l = true) (hd : decF 0 l = some v) : 0 < v := by
  match l, h with
  | c :: r, h =>
    rw [decF] at hd
    split at hd
    · rename_i hc
      have := decF_ge r _ v hd
      have hne : c ≠ 48 := by simpa [headNz] using h
      have : c.toNat ≠ 48 := fun e => hne (UInt8.toNat_inj.1 e)
      omega
    · cases hd
theorem decD_of : ∀ (k : Nat) (l : List UInt8) (v : Nat), l.length = k → canon l = true → decF 0 l = some v → decD k v = l
  | 0, l, v, hl, hc, _ => by
    have : l = [] := List.eq_nil_of_length_eq_zero hl
    subst this; cases hc
  | k + 1, l, v, hl, hc, hd => by
    rcases snoc_cases l with rfl | ⟨r, c, rfl⟩
    · simp at hl
    · have hlr : r.length = k := by simpa using hl
      rw [decF_snoc] at hd
      rcases hn : decF 0 r with _ | n
      · rw [hn] at hd; cases hd
      · rw [hn] at hd
        simp only at hd
        split at hd
        · rename_i hc9
          injection hd with hd
          rcases Nat.eq_zero_or_pos k with h0 | h0
          · have hr : r = [] := List.eq_nil_of_length_eq_zero (by omega)
            subst hr
            rw [decF] at hn
            injection hn with hn
            subst hn
            subst h0
            have hv : v = c.toNat - 48 := by omega
            subst hv
            rw [decD, if_pos (by omega), dbyte_of hc9]
            rfl
          · have hr : r ≠ [] := by intro e; subst e; simp at hlr; omega
            have hz : headNz r = true := by
              rw [canon_two (by simp; omega), headNz_app hr] at hc; exact hc
            have hpos := decF_pos hz hn
            have hcr : canon r = true := by
              rcases Nat.lt_or_ge r.length 2 with h1 | h1
              · match r, hr, h1 with
                | [_], _, _ => rfl
                | _ :: _ :: _, _, h1 => exact absurd h1 (by simp)
              · rw [canon_two h1]; exact hz
            have ih := decD_of k r n hlr hcr hn
            rw [decD, if_neg (by omega), show v / 10 = n from by omega, ih, show v % 10 = c.toNat - 48 from by omega, dbyte_of hc9]
        · cases hd
theorem headNz_dec : ∀ (k n : Nat), 0 < n → n < 10 ^ k → headNz (decD k n) = true ∧ decD k n ≠ []
  | 0, n, h0, h => by simp at h; omega
  | k + 1, n, h0, h => by
    rw [decD]
    split
    · refine ⟨?_, by simp⟩
      show (dbyte n != 48) = true
      rw [bne_iff_ne]
      intro e
      have := congrArg UInt8.toNat e
      rw [dbyte_nat (by omega)] at this
      have e48 : (48 : UInt8).toNat = 48 := rfl
      omega
    · have ih := headNz_dec k (n / 10) (by omega) (by rw [Nat.pow_succ] at h; omega)
      exact ⟨by rw [headNz_app ih.2]; exact ih.1, by simp⟩
theorem canon_dec (k n : Nat) (hk : 0 < k) (h : n < 10 ^ k) : canon (decD k n) = true := by
  match k, hk with
  | k + 1, _ =>
    by_cases h10 : n < 10
    · rw [decD, if_pos h10]; rfl
    · have ih := headNz_dec k (n / 10) (by omega) (by rw [Nat.pow_succ] at h; omega)
      rw [decD, if_neg h10, canon_two, headNz_app ih.2]
      · exact ih.1
      · have : 0 < (decD k (n / 10)).length := List.length_pos_iff.2 ih.2
        simp; omega
theorem decF_dec : ∀ (k n : Nat), 0 < k → n < 10 ^ k → decF 0 (decD k n) = some n
  | k + 1, n, _, h => by
    rw [decD]
    split
    · rename_i h10
      rw [decF, dbyte_nat h10, if_pos (by omega), decF]
      congr 1; omega
    · rename_i h10
      rw [Nat.pow_succ] at h
      have hk : 0 < k := by
        rcases Nat.eq_zero_or_pos k with h0 | h0
        · subst h0; simp at h; omega
        · exact h0
      rw [decF_snoc, decF_dec k (n / 10) hk (by omega)]
      simp only
      rw [dbyte_nat (by omega), if_pos (by omega)]
      congr 1; omega

theorem dgt10 (c : UInt8) : dgt 10 c = if 48 ≤ c.toNat ∧ c.toNat ≤ 57 then some (c.toNat - 48) else none := by
  unfold dgt
  simp only [le_nat]
  have e1 : (57 : UInt8).toNat = 57 := rfl
  have e2 : (48 : UInt8).toNat = 48 := rfl
  rw [e1, e2]
  split
  · rfl
  · rw [if_neg (by omega)]
theorem dgt16 (c : UInt8) : dgt 16 c = if rdig c < 0 then none else some (rdig c).toNat := by
  unfold dgt rdig
  simp only [le_nat]
  have e1 : (57 : UInt8).toNat = 57 := rfl
  have e2 : (48 : UInt8).toNat = 48 := rfl
  have e3 : (97 : UInt8).toNat = 97 := rfl
  have e4 : (102 : UInt8).toNat = 102 := rfl
  rw [e1, e2, e3, e4]
  by_cases h : 48 ≤ c.toNat ∧ c.toNat ≤ 57
  · rw [if_pos h, if_pos h, if_neg (by omega)]; congr 1; omega
  · rw [if_neg h, if_neg h]
    by_cases h2 : 97 ≤ c.toNat ∧ c.toNat ≤ 102
    · rw [if_pos ⟨trivial, h2⟩, if_pos h2, if_neg (by omega)]; congr 1; omega
    · rw [if_neg (by intro h3; exact h2 h3.2), if_neg h2, if_pos (by omega)]
theorem horner10 : ∀ (l : List UInt8) (acc : Nat), acc ≤ 4294967295 → horner 10 acc l = match decF acc l with
    | none => none
    | some v => if v ≤ 4294967295 then some v else none
  | [], acc, h => by simp only [horner, decF, h, if_true]
  | c :: l, acc, h => by
    rw [horner, decF, dgt10]
    by_cases hc : 48 ≤ c.toNat ∧ c.toNat ≤ 57
    · rw [if_pos hc, if_pos hc]
      simp only
      rw [Nat.mul_comm acc 10]
      by_cases hg : 4294967295 < 10 * acc + (c.toNat - 48)
      · rw [if_pos hg]
        rcases hd : decF (10 * acc + (c.toNat - 48)) l with _ | v
        · rfl
        · have := decF_ge l _ v hd
          simp only
          rw [if_neg (by omega)]
      · rw [if_neg hg]
        exact horner10 l _ (by omega)
    · rw [if_neg hc, if_neg hc]
theorem horner16 : ∀ (l : List UInt8) (acc : Nat), (acc + 1) * 16 ^ l.length ≤ 4294967296 → horner 16 acc l = hexF acc l
  | [], acc, _ => rfl
  | c :: l, acc, h => by
    rw [horner, hexF, dgt16]
    by_cases hc : rdig c < 0
    · rw [if_pos hc, if_pos hc]
    · rw [if_neg hc, if_neg hc]
      simp only
      have hlt := rdig_lt c
      rw [List.length_cons, Nat.pow_succ] at h
      have h2 : (16 * acc + (rdig c).toNat + 1) * 16 ^ l.length ≤ (16 * (acc + 1)) * 16 ^ l.length := Nat.mul_le_mul_right _ (by omega)
      have h3 : (acc + 1) * (16 ^ l.length * 16) = (16 * (acc + 1)) * 16 ^ l.length := by rw [Nat.mul_comm (16 ^ l.length) 16, ← Nat.mul_assoc, Nat.mul_comm (acc + 1) 16]
      have h4 : (16 * acc + (rdig c).toNat + 1) * 1 ≤ (16 * acc + (rdig c).toNat + 1) * 16 ^ l.length := Nat.mul_le_mul_left _ (Nat.pow_pos (by omega))
      rw [Nat.mul_comm acc 16, if_neg (by omega)]
      exact horner16 l _ (by omega)
theorem prefix_iff (l : List UInt8) : Lib.hasPrefix l [48, 120] = true ↔ (2 ≤ l.length ∧ l.take 2 = [48, 120]) := by
  unfold Lib.hasPrefix
  match l with
  | [] => simp
  | [a] => simp [List.isPrefixOf]
  | a :: b :: r =>
    have e : List.isPrefixOf [48, 120] (a :: b :: r) = ((48 == a) && (120 == b)) := by simp [List.isPrefixOf]
    rw [e, Bool.and_eq_true, beq_iff_eq, beq_iff_eq]
    constructor
    · rintro ⟨rfl, rfl⟩; exact ⟨by simp, rfl⟩
    · rintro ⟨_, h⟩
      have h' : [a, b] = [48, 120] := h
      injection h' with h1 h2
      injection h2 with h2
      exact ⟨h1.symm, h2.symm⟩
theorem rpu32_eq (l : List UInt8) : rpu32 l = pu32 l := by
  unfold rpu32 pu32
  by_cases hp : 2 ≤ l.length ∧ l.take 2 = [48, 120]
  · rw [if_pos hp, if_pos ((prefix_iff l).2 hp)]
    by_cases h : l.length < 3 ∨ 10 < l.length
    · rw [if_pos h, if_pos (by omega)]
    · rw [if_neg h, if_neg (by omega)]
      refine (horner16 _ 0 ?_).symm
      have h1 : (l.drop 2).length ≤ 8 := by rw [List.length_drop]; omega
      have h2 : 16 ^ (l.drop 2).length ≤ 16 ^ 8 := Nat.pow_le_pow_right (by omega) h1
      omega
  · rw [if_neg hp, if_neg (fun h => hp ((prefix_iff l).1 h))]
    by_cases hc : canon l = true
    · rw [if_pos hc, horner10 l 0 (by omega)]
      have h0 : 0 < l.length := by
        match l, hc with
        | _ :: r, _ => exact Nat.succ_pos r.length
      rcases hd : decF 0 l with _ | v
      · simp only; split <;> rfl
      · have hl := decD_of l.length l v rfl hc hd
        have hlt := decF_lt l 0 v hd
        rw [Nat.zero_add, Nat.one_mul] at hlt
        simp only
        by_cases hv : v ≤ 4294967295
        · have h10 : v < 10 ^ 10 := by omega
          have e := decD_fuel l.length 10 v hlt h10 h0 (by omega)
          have hlen : l.length ≤ 10 := by
            have := decD_len 10 v
            rw [← e, hl] at this; exact this
          have e20 := decD_fuel l.length 20 v hlt (by omega) h0 (by omega)
          rw [if_neg (by omega), if_pos hv, if_neg]
          intro h
          rcases h with h | h
          · omega
          · exact h (by rw [dec, ← e20, hl])
        · rw [if_neg hv]
          split
          · rfl
          · rw [if_pos (.inl (by omega))]
    · rw [if_neg hc]
      split
      · rfl
      · rename_i hlen
        rcases hd : decF 0 l with _ | v
        · rfl
        · simp only
          have hlt := decF_lt l 0 v hd
          rw [Nat.zero_add, Nat.one_mul] at hlt
          have h10 : 10 ^ l.length ≤ 10 ^ 10 := Nat.pow_le_pow_right (by omega) (by omega)
          rw [if_pos]
          refine .inr fun e => hc ?_
          rw [← e, dec]
          exact canon_dec 20 v (by omega) (by omega)

end Go.Proofs.YtnddfmbgbgiljaaDoor
