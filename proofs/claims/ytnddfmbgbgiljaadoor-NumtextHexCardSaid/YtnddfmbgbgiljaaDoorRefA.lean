/- Walks of the reference's numbers: digit, decimal, digits, ParseUint32. No condition but the length of the text. -/
import Derived.Test.YtnddfmbgbgiljaaDoorNumB
namespace Go.Proofs.YtnddfmbgbgiljaaDoor
open Go.RowKit

def rdig (c : UInt8) : Int := if 48 ≤ c ∧ c ≤ 57 then (c.toNat : Int) - 48 else if 97 ≤ c ∧ c ≤ 102 then (c.toNat : Int) - 87 else -1
theorem le_nat (a b : UInt8) : a ≤ b ↔ a.toNat ≤ b.toNat := UInt8.le_iff_toNat_le
set_option maxHeartbeats 400000 in
theorem rdigit_any (c : UInt8) (w : World) :
    Calls Tryd.prog 29 #[.int .u8 c.toNat] w fun e w' => e = .returned (.int .i64 (rdig c)) ∧ w = w' := by
  have hc : c.toNat < 256 := c.toNat_lt
  have H : Hid (rdig c = if 48 ≤ c.toNat ∧ c.toNat ≤ 57 then (c.toNat : Int) - 48 else if 97 ≤ c.toNat ∧ c.toNat ≤ 102 then (c.toNat : Int) - 87 else -1) := by
    refine Lib.hid ?_
    simp only [rdig, le_nat]; rfl
  go_enter Tryd.func29, Tryd.ntmps29
  go_wp2
  all_goals go_ret
  all_goals refine ⟨ret_int ?_, rfl⟩
  all_goals rw [H.out]
  all_goals (repeat' split) <;> omega

/-- Horner's rule over decimal digits, without a bound -/
def decF : Nat → List UInt8 → Option Nat
  | acc, [] => some acc
  | acc, c :: l => if 48 ≤ c.toNat ∧ c.toNat ≤ 57 then decF (10 * acc + (c.toNat - 48)) l else none
def rdecV (l : List UInt8) (most : Nat) : Value :=
  if l.length < 1 ∨ most < l.length then .tuple #[.int .u64 0, .bool false] else match decF 0 l with
    | none => .tuple #[.int .u64 0, .bool false]
    | some v => .tuple #[.int .u64 v, .bool true]

set_option maxHeartbeats 1000000 in
theorem rdecimal_any (s : ByteArray) (most : Nat) (w : World) (hs : s.size ≤ 1048576) (hm : most ≤ 10) :
    Calls Tryd.prog 28 #[.string s, .int .i64 most] w fun e w' => e = .returned (rdecV s.data.toList most) ∧ w = w' := by
  have hsl : s.data.toList.length = s.size := rfl
  have HS := Lib.hid hsl
  clear hsl
  by_cases h1 : s.size < 1 ∨ most < s.size
  · have H1 := Lib.hid h1
    rcases h1 with h1 | h1
    all_goals
      go_enter Tryd.func28, Tryd.ntmps28
      go_wp2
      go_ret2
      exact ⟨by rw [rdecV, if_pos (by rw [HS.out]; exact H1.out)]; rfl, rfl⟩
  · have H1 := Lib.hid h1
    have h1a : ¬ s.size < 1 := by omega
    have h1b : ¬ most < s.size := by omega
    clear h1
    go_enter Tryd.func28, Tryd.ntmps28
    go_wp2
    go_loop [6, 7] (fun v i => ∃ k n : Nat, k ≤ s.size ∧ i = .int .i64 k ∧ v = .int .u64 n ∧ n ≤ 9999999999 ∧ Hid (n < 10 ^ k) ∧ Hid (decF 0 s.data.toList = decF n (s.data.toList.drop k)))
      (fun _ i => s.size - (intOf i).toNat)
    case atStart => exact ⟨0, 0, Nat.zero_le _, rfl, rfl, by omega, Lib.hid (by decide), Lib.hid rfl⟩
    case round =>
      obtain ⟨k, n, hk, rfl, rfl, hn, HN, HD⟩ := hrel
      by_cases hlt : k < s.size
      · have hc : s[k].toNat < 256 := s[k].toNat_lt
        have HC := Lib.hid (drop_cons s k hlt)
        have hn9 : n < 1000000000 := Nat.lt_of_lt_of_le HN.out (Nat.le_trans (Nat.pow_le_pow_right (by omega) (show k ≤ 9 by omega)) (by decide))
        by_cases hd : 48 ≤ s[k].toNat ∧ s[k].toNat ≤ 57
        · obtain ⟨hd1, hd2⟩ := hd
          go_wp2
          go_round
          case rel =>
            refine ⟨k + 1, 10 * n + (s[k].toNat - 48), by omega, by go_num, ?_, by omega, Lib.hid ?_, Lib.hid ?_⟩
            · rw [show ((10 * n + (s[k].toNat - 48) : Nat) : Int) = 10 * (n : Int) + ((s[k].toNat : Int) - 48) from by omega]
            · have := HN.out
              rw [Nat.pow_succ]; omega
            · rw [HD.out, HC.out, decF, if_pos ⟨hd1, hd2⟩]
          case measure => simp [intOf]; omega
        · have e : decF 0 s.data.toList = none := by rw [HD.out, HC.out, decF, if_neg hd]
          have HE := Lib.hid e
          clear e
          rcases Nat.lt_or_ge s[k].toNat 48 with h | h
          · go_wp2
            go_ret2
            exact ⟨by rw [rdecV, if_neg (by rw [HS.out]; exact H1.out), HE.out]; rfl, rfl⟩
          · have h' : 57 < s[k].toNat := by omega
            go_wp2
            go_ret2
            exact ⟨by rw [rdecV, if_neg (by rw [HS.out]; exact H1.out), HE.out]; rfl, rfl⟩
      · have e : decF 0 s.data.toList = some n := by
          rw [HD.out, List.drop_of_length_le (by have := HS.out; omega)]; rfl
        have HE := Lib.hid e
        clear e
        go_wp2
        go_ret2
        exact ⟨by rw [rdecV, if_neg (by rw [HS.out]; exact H1.out), HE.out]; rfl, rfl⟩

def dbyte (n : Nat) : UInt8 := UInt8.ofNat (48 + n)
theorem dbyte_nat {n : Nat} (h : n < 10) : (dbyte n).toNat = 48 + n := by
  unfold dbyte; simp; omega
/-- the decimal digits of n -/
def decD : Nat → Nat → List UInt8
  | 0, _ => []
  | k + 1, n => if n < 10 then [dbyte n] else decD k (n / 10) ++ [dbyte (n % 10)]

theorem decD_len : ∀ k n, (decD k n).length ≤ k
  | 0, _ => Nat.le_refl _
  | k + 1, n => by
    rw [decD]
    split
    · simp
    · have := decD_len k (n / 10)
      simp; omega
theorem decD_fuel : ∀ (k j n : Nat), n < 10 ^ k → n < 10 ^ j → 0 < k → 0 < j → decD k n = decD j n
  | k + 1, j + 1, n, hk, hj, _, _ => by
    rw [decD, decD]
    split
    · rfl
    · rename_i h
      rw [Nat.pow_succ] at hk hj
      have hk0 : 0 < k := by
        rcases Nat.eq_zero_or_pos k with h0 | h0
        · subst h0; omega
        · exact h0
      have hj0 : 0 < j := by
        rcases Nat.eq_zero_or_pos j with h0 | h0
        · subst h0; omega
        · exact h0
      rw [decD_fuel k j (n / 10) (by omega) (by omega) hk0 hj0]
def dec (n : Nat) : List UInt8 := decD 20 n

set_option maxHeartbeats 400000 in
theorem digits_one (n : Nat) (w : World) (h : n < 10) :
    Calls Tryd.prog 22 #[.int .u64 n] w fun e w' => e = .returned (.string ⟨#[dbyte n]⟩) ∧ Below w.heap.size w w' := by
  have hcv : (convert 31 9 (.slice (some ⟨w.heap.size, 0, none⟩) 1 1)).run Tryd.prog (w.alloc (.cells #[.int .u8 (48 + (n : Int))] 5)) = .ok (.string ⟨#[dbyte n]⟩) (w.alloc (.cells #[.int .u8 (48 + (n : Int))] 5)) := by
    refine run_convert_bytes_back (P := Tryd.prog) _ 31 9 5 ⟨w.heap.size, 0, none⟩ 1 [dbyte n] Tryd.underlying31 Tryd.underlying5 Tryd.underlying9 ?_
    intro j hj
    have h0 : j = 0 := by simpa using hj
    subst h0
    simp [Addr.add, dbyte_nat h]
  go_enter Tryd.func22, Tryd.ntmps22
  go_wp2
  go_ret
  exact ⟨rfl, (Below.refl _ _).alloc (Nat.le_refl _) _⟩

theorem str_app (a b : List UInt8) : (⟨a.toArray⟩ : ByteArray) ++ ⟨b.toArray⟩ = ⟨(a ++ b).toArray⟩ := by
  apply ByteArray.ext
  apply Array.ext'
  simp

set_option maxHeartbeats 400000 in
theorem rdigits_any : ∀ (k n : Nat) (w : World), k ≤ 20 → n < 10 ^ (k + 1) → n < 18446744073709551616 →
    Calls Tryd.prog 22 #[.int .u64 n] w fun e w' => e = .returned (.string ⟨(decD (k + 1) n).toArray⟩) ∧ Below w.heap.size w w'
  | k, n, w, hk, hn, h64 => by
    by_cases h : n < 10
    · rw [decD, if_pos h]
      exact digits_one n w h
    · match k, hk, hn with
      | 0, _, hn => simp at hn; omega
      | k + 1, hk, hn =>
        have IH := Lib.hid (rdigits_any k (n / 10) w (by omega) (by rw [Nat.pow_succ] at hn; omega) (by omega))
        have HE : Hid (decD (k + 1 + 1) n = decD (k + 1) (n / 10) ++ [dbyte (n % 10)]) := by refine Lib.hid ?_; rw [decD, if_neg h]
        have hL : (decD (k + 1) (n / 10)).length ≤ 20 := Nat.le_trans (decD_len (k + 1) (n / 10)) hk
        clear hn
        go_enter Tryd.func22, Tryd.ntmps22
        go_wp2_with fail
        rw [show ((n : Int) / 10) = ((n / 10 : Nat) : Int) from by omega]
        refine IH.out.mono ?_
        rintro e w1 ⟨rfl, hb1⟩
        go_wp2_with fail
        rw [show ((n : Int) % 10) = ((n % 10 : Nat) : Int) from by omega]
        refine (digits_one (n % 10) _ (by omega)).mono ?_
        rintro e w2 ⟨rfl, hb2⟩
        go_wp2
        go_ret
        refine ⟨?_, hb1.trans (hb2.mono hb1.size)⟩
        rw [HE.out, ← str_app]
        rfl
end Go.Proofs.YtnddfmbgbgiljaaDoor
