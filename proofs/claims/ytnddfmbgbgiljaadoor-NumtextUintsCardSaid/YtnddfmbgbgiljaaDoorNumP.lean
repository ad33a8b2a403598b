/- The plain laws of the number texts: parse and format are inverse; hexadecimal. No program in sight. -/
import Derived.Test.YtnddfmbgbgiljaaDoorNumH
import Derived.Test.YtnddfmbgbgiljaaDoorNumE
import Derived.Test.YtnddfmbgbgiljaaDoorNumLaw
namespace Go.Proofs.YtnddfmbgbgiljaaDoor

theorem dec_iff (t : List UInt8) (v : Nat) (hv : v < 10 ^ 10) (h0 : 0 < t.length) (hd : decF 0 t = some v) : dec v = t ↔ canon t = true := by
  have hlt := decF_lt t 0 v hd
  rw [Nat.zero_add, Nat.one_mul] at hlt
  constructor
  · intro e; rw [← e, dec]; exact canon_dec 20 v (by omega) (by omega)
  · intro hc
    rw [dec, ← decD_fuel t.length 20 v hlt (by omega) h0 (by omega), decD_of t.length t v rfl hc hd]
theorem itoa_ofNat (v : Nat) (h : v < 1000000000) : Lib.itoa (v : Int) = dec v := by rw [itoa_nonneg _ (by omega) (by omega)]; rfl
theorem itoa_negNat (v : Nat) (h0 : 0 < v) (h : v < 1000000000) : Lib.itoa (-(v : Int)) = 45 :: dec v := by rw [itoa_neg _ (by omega) (by omega)]; congr 2; omega
theorem rpintL_eq (neg : Bool) (t : List UInt8) : rpintL neg t (if neg = true then 45 :: t else t) = pintL neg t := by
  unfold rpintL pintL
  by_cases hl : t.length < 1 ∨ 9 < t.length
  · rw [if_pos hl, if_pos]
    rcases hl with h | h
    · right
      have : t = [] := List.eq_nil_of_length_eq_zero (by omega)
      subst this; rfl
    · exact .inl h
  · rw [if_neg hl, horner10 t 0 (by omega)]
    rcases hd : decF 0 t with _ | v
    · simp only; split <;> rfl
    · have hlt := decF_lt t 0 v hd
      rw [Nat.zero_add, Nat.one_mul] at hlt
      have h9 : 10 ^ t.length ≤ 10 ^ 9 := Nat.pow_le_pow_right (by omega) (by omega)
      have hv : v < 1000000000 := by omega
      have hi := dec_iff t v (by omega) (by omega) hd
      simp only
      rw [if_pos (show v ≤ 4294967295 by omega)]
      cases neg
      · simp only [Bool.false_eq_true, if_false, false_and]
        rw [itoa_ofNat v hv]
        by_cases hc : canon t = true
        · rw [if_pos (hi.2 hc), if_neg]
          simp [hc]; omega
        · rw [if_neg (fun h => hc (hi.1 h)), if_pos (.inr (by simpa using hc))]
      · simp only [if_true, true_and]
        by_cases hz : v = 0
        · subst hz
          rw [if_neg, if_pos rfl, ite_self]
          intro h
          have e : Lib.itoa (-((0 : Nat) : Int)) = [48] := by rw [show -((0 : Nat) : Int) = ((0 : Nat) : Int) by rfl, itoa_ofNat 0 (by omega)]; decide +kernel
          rw [e] at h
          injection h with h1 h2
          revert h1; decide
        · rw [itoa_negNat v (by omega) hv, if_neg hz]
          by_cases hc : canon t = true
          · rw [if_pos (by rw [hi.2 hc]), if_neg]
            simp [hc]; omega
          · rw [if_neg, if_pos (.inr (by simpa using hc))]
            intro h
            injection h with h1 h2
            exact hc (hi.1 h2)
theorem rpint_eq (l : List UInt8) : rpint l = pint l := by
  unfold rpint pint
  match l with
  | [] => rfl
  | c :: r =>
    by_cases h : c = 45
    · subst h
      have e := rpintL_eq true r
      rw [if_pos rfl] at e
      simpa [Lib.hasPrefix] using e
    · have e := rpintL_eq false (c :: r)
      rw [if_neg (by decide)] at e
      have hb : ¬ (45 : UInt8) = c := fun hh => h hh.symm
      simpa [Lib.hasPrefix, h, hb] using e
/-- what ParseInt accepts is what FormatInt returns -/
theorem pint_itoa {l : List UInt8} {n : Int} (h : pint l = some n) : Lib.itoa n = l ∧ -9223372036854775808 ≤ n ∧ n ≤ 9223372036854775807 := by
  rw [← rpint_eq, rpint] at h
  have key : ∀ neg t, rpintL neg t l = some n → Lib.itoa n = l ∧ -9223372036854775808 ≤ n ∧ n ≤ 9223372036854775807 := by
    intro neg t h
    unfold rpintL at h
    split at h
    · cases h
    · rename_i hl
      rcases hd : decF 0 t with _ | v
      · rw [hd] at h; cases h
      · rw [hd] at h
        simp only at h
        have hlt := decF_lt t 0 v hd
        rw [Nat.zero_add, Nat.one_mul] at hlt
        have h9 : 10 ^ t.length ≤ 10 ^ 9 := Nat.pow_le_pow_right (by omega) (by omega)
        by_cases he : Lib.itoa (if neg = true then -(v : Int) else v) = l
        · rw [if_pos he] at h
          injection h with h
          subst h
          refine ⟨he, ?_, ?_⟩ <;> split <;> omega
        · rw [if_neg he] at h; cases h
  split at h
  · exact key _ _ h
  · exact key _ _ h

theorem dec_ne (v : Nat) : dec v ≠ [] := by
  rw [dec, decD]; split <;> simp
theorem dec_len9 (v : Nat) (h : v < 10 ^ 9) : (dec v).length ≤ 9 := by
  rw [dec, ← decD_fuel 9 20 v h (by omega) (by omega) (by omega)]; exact decD_len 9 v
theorem dec_len10 (v : Nat) (h0 : 10 ^ 9 ≤ v) (h : v < 10 ^ 20) : 9 < (dec v).length := by
  have hd : decF 0 (dec v) = some v := decF_dec 20 v (by omega) h
  have hlt := decF_lt _ 0 v hd
  rw [Nat.zero_add, Nat.one_mul] at hlt
  rcases Nat.lt_or_ge 9 (dec v).length with h1 | h1
  · exact h1
  · have h2 : 10 ^ (dec v).length ≤ 10 ^ 9 := Nat.pow_le_pow_right (by omega) h1
    omega
theorem dec_head (v : Nat) (h : v < 10 ^ 20) : ∃ c r, dec v = c :: r ∧ 48 ≤ c.toNat ∧ c.toNat ≤ 57 := by
  have hd : decF 0 (dec v) = some v := decF_dec 20 v (by omega) h
  match e : dec v with
  | [] => exact absurd e (dec_ne v)
  | c :: r =>
    rw [e, decF] at hd
    split at hd
    · rename_i hc; exact ⟨c, r, rfl, hc.1, hc.2⟩
    · cases hd
theorem pref45 {c : UInt8} {r : List UInt8} (h : 48 ≤ c.toNat) : Lib.hasPrefix (c :: r) [45] = false := by
  have hb : (45 == c) = false := by
    rw [beq_eq_false_iff_ne]; intro e; subst e; revert h; decide
  show ((45 == c) && [].isPrefixOf r) = false
  rw [hb]; rfl
theorem pintL_dec (neg : Bool) (v : Nat) (h : v < 10 ^ 20) : pintL neg (dec v) = if v < 1000000000 then (if neg = true ∧ v = 0 then none else some (if neg = true then -(v : Int) else v)) else none := by
  unfold pintL
  have hd : decF 0 (dec v) = some v := decF_dec 20 v (by omega) h
  by_cases hv : v < 1000000000
  · rw [if_pos hv, if_neg, horner10 _ 0 (by omega), hd]
    · simp only; rw [if_pos (show v ≤ 4294967295 by omega)]
    · have := dec_len9 v (by omega)
      rw [dec, canon_dec 20 v (by omega) h]
      rw [dec] at this
      simp; omega
  · rw [if_neg hv, if_pos (.inl (dec_len10 v (by omega) h))]
/-- ParseInt of what FormatInt returns -/
theorem pint_of (n : Int) (h0 : -9223372036854775808 ≤ n) (h1 : n ≤ 9223372036854775807) : pint (Lib.itoa n) = if -999999999 ≤ n ∧ n ≤ 999999999 then some n else none := by
  by_cases h : 0 ≤ n
  · rw [itoa_nonneg n h h1]
    obtain ⟨c, r, e, hc, _⟩ := dec_head n.toNat (by omega)
    rw [pint, e, pref45 hc, ← e, if_neg (by decide), pintL_dec false _ (by omega)]
    by_cases hs : n.toNat < 1000000000
    · rw [if_pos hs, if_neg (by simp), if_neg (by decide), if_pos (by omega), Int.toNat_of_nonneg h]
    · rw [if_neg hs, if_neg (by omega)]
  · rw [itoa_neg n (by omega) h0, pint]
    have hp : Lib.hasPrefix (45 :: dec n.natAbs) [45] = true := by simp [Lib.hasPrefix]
    rw [if_pos hp]
    show pintL true (dec n.natAbs) = _
    rw [pintL_dec true _ (by omega)]
    by_cases hs : n.natAbs < 1000000000
    · rw [if_pos hs, if_neg (fun h2 => absurd h2.2 (by omega)), if_pos rfl, if_pos (by omega)]
      congr 1; omega
    · rw [if_neg hs, if_neg (by omega)]
theorem itoa_cons (n : Int) (h0 : -9223372036854775808 ≤ n) (h1 : n ≤ 9223372036854775807) : ∃ c r, Lib.itoa n = c :: r := by
  by_cases h : 0 ≤ n
  · rw [itoa_nonneg n h h1]
    obtain ⟨c, r, e, _⟩ := dec_head n.toNat (by omega)
    exact ⟨c, r, e⟩
  · rw [itoa_neg n (by omega) h0]; exact ⟨_, _, rfl⟩
theorem pint_zero (c : UInt8) (r : List UInt8) : pint (48 :: c :: r) = none := by
  rw [pint, pref45 (by decide), if_neg (by decide), pintL, if_pos (.inr (by simp [canon]))]
theorem pint_plus (c : UInt8) (r : List UInt8) : pint (43 :: c :: r) = none := by
  have hp : Lib.hasPrefix (43 :: c :: r) [45] = false := rfl
  rw [pint, hp, if_neg (by decide), pintL]
  split
  · rfl
  · have : dgt 10 43 = none := by decide
    rw [horner, this]
theorem horner_space (l : List UInt8) : horner 10 0 (l ++ [32]) = none := by
  rw [horner10 _ 0 (by omega), decF_snoc]
  rcases decF 0 l with _ | v <;> simp
theorem pintL_space (neg : Bool) (l : List UInt8) : pintL neg (l ++ [32]) = none := by
  rw [pintL, horner_space]; split <;> rfl
theorem pint_space (c : UInt8) (r : List UInt8) : pint (c :: r ++ [32]) = none := by
  rw [pint]
  split
  · exact pintL_space true r
  · exact pintL_space false (c :: r)

/- hexadecimal -/
theorem dgt_hx (n : Nat) (h : n < 16) : dgt 16 (hx n) = some n := by
  have h2 : ∀ n : Fin 16, dgt 16 (hx n.1) = some n.1 := by decide +kernel
  exact h2 ⟨n, h⟩
theorem hx_dgt {c : UInt8} {n : Nat} (h : dgt 16 c = some n) : hx n = c ∧ n < 16 := by
  have h2 : ∀ x : Fin 256, ∀ n, dgt 16 (UInt8.ofNat x.1) = some n → hx n = UInt8.ofNat x.1 ∧ n < 16 := by
    intro x n hh
    have h3 : ∀ x : Fin 256, (match dgt 16 (UInt8.ofNat x.1) with | none => true | some n => decide (hx n = UInt8.ofNat x.1 ∧ n < 16)) = true := by decide +kernel
    have := h3 x
    rw [hh] at this
    exact of_decide_eq_true this
  have h4 := h2 ⟨c.toNat, c.toNat_lt⟩ n
  have e : UInt8.ofNat c.toNat = c := UInt8.ofNat_toNat
  simp only [e] at h4
  exact h4 h
theorem byte_split (c : UInt8) : UInt8.ofNat (16 * (c.toNat / 16) + c.toNat % 16) = c := by
  rw [Nat.div_add_mod]; exact UInt8.ofNat_toNat
theorem hexD_enc : ∀ (l acc : List UInt8), hexD acc (encH l) = some (acc ++ l)
  | [], acc => by simp [encH, hexD]
  | c :: l, acc => by
    have hc := c.toNat_lt
    rw [encH, hexD, dgt_hx _ (by omega), dgt_hx _ (by omega)]
    simp only
    rw [hexD_enc l, byte_split]
    simp
theorem encH_hexD : ∀ (n : Nat) (l acc b : List UInt8), l.length ≤ n → hexD acc l = some b → ∃ r, b = acc ++ r ∧ encH r = l
  | _, [], acc, b, _, h => by rw [hexD] at h; injection h with h; exact ⟨[], by simp [h], rfl⟩
  | _, [_], acc, b, _, h => by rw [hexD] at h; cases h
  | n + 2, x :: y :: r, acc, b, hn, h => by
    rw [hexD] at h
    rcases hx1 : dgt 16 x with _ | u
    · rw [hx1] at h; cases h
    · rcases hy1 : dgt 16 y with _ | v
      · rw [hx1, hy1] at h; cases h
      · rw [hx1, hy1] at h
        simp only at h
        simp only [List.length_cons] at hn
        obtain ⟨q, e1, e2⟩ := encH_hexD n r _ b (by omega) h
        refine ⟨UInt8.ofNat (16 * u + v) :: q, by rw [e1]; simp, ?_⟩
        obtain ⟨hu, hu1⟩ := hx_dgt hx1
        obtain ⟨hv, hv1⟩ := hx_dgt hy1
        have en : (UInt8.ofNat (16 * u + v)).toNat = 16 * u + v := by
          rw [UInt8.toNat_ofNat']; omega
        rw [encH, en, e2, show (16 * u + v) / 16 = u by omega, show (16 * u + v) % 16 = v by omega, hu, hv]
theorem hex_odd (l : List UInt8) : hexD [] (encH l ++ [48]) = none := hexD_odd _ [] _ (Nat.le_refl _) (by rw [List.length_append, encH_len]; simp)

/- ParseUint32 -/
theorem pu32_dec (v : Nat) (h : v < 4294967296) : pu32 (dec v) = some v := by
  have hd : decF 0 (dec v) = some v := decF_dec 20 v (by omega) (by omega)
  rw [pu32, if_neg, if_pos, horner10 _ 0 (by omega), hd]
  · simp only; rw [if_pos (by omega)]
  · rw [dec]; exact canon_dec 20 v (by omega) (by omega)
  · intro hp
    rw [prefix_iff] at hp
    match e : dec v with
    | [] => exact dec_ne v e
    | [_] => rw [e] at hp; simp at hp
    | a :: b :: r =>
      rw [e] at hp hd
      simp at hp
      obtain ⟨rfl, rfl⟩ := hp
      rw [decF, decF] at hd
      simp at hd
theorem pu32_hex (h : List UInt8) (h1 : 1 ≤ h.length) (h2 : h.length ≤ 8) : pu32 (48 :: 120 :: h) = hexF 0 h := by
  rw [pu32, if_pos (by simp [Lib.hasPrefix]), if_neg (by simp only [List.length_cons]; omega)]
  show horner 16 0 h = _
  refine horner16 h 0 ?_
  have h3 : 16 ^ h.length ≤ 16 ^ 8 := Nat.pow_le_pow_right (by omega) h2
  omega
theorem pu32_long (h : List UInt8) (h1 : 8 < h.length) : pu32 (48 :: 120 :: h) = none := by
  rw [pu32, if_pos (by simp [Lib.hasPrefix]), if_pos (by simp only [List.length_cons]; omega)]
theorem rdig_hx (n : Nat) (h : n < 16) : rdig (hx n) = n := by
  have h2 : ∀ n : Fin 16, rdig (hx n.1) = (n.1 : Int) := by decide +kernel
  exact h2 ⟨n, h⟩
theorem hexF_enc : ∀ (l : List UInt8) (acc : Nat), hexF acc (encH l) = some (l.foldl (fun a c => 256 * a + c.toNat) acc)
  | [], acc => rfl
  | c :: l, acc => by
    have hc := c.toNat_lt
    rw [encH, hexF, rdig_hx _ (by omega), if_neg (by omega), hexF, rdig_hx _ (by omega), if_neg (by omega), hexF_enc l]
    simp only [List.foldl_cons, Int.toNat_natCast]
    congr 2; omega
theorem hexF_zero (r : List UInt8) : hexF 0 (48 :: r) = hexF 0 r := by
  rw [hexF]; rfl
end Go.Proofs.YtnddfmbgbgiljaaDoor
