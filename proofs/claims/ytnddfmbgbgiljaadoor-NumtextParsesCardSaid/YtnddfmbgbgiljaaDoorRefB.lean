/- The walk of the reference's ParseUint32. No condition but the length of the text. -/
import Derived.Test.YtnddfmbgbgiljaaDoorRefA
namespace Go.Proofs.YtnddfmbgbgiljaaDoor
open Go.RowKit

def hexF : Nat → List UInt8 → Option Nat
  | acc, [] => some acc
  | acc, c :: l => if rdig c < 0 then none else hexF (16 * acc + (rdig c).toNat) l
def rpu32 (l : List UInt8) : Option Nat :=
  if 2 ≤ l.length ∧ l.take 2 = [48, 120] then (if l.length < 3 ∨ 10 < l.length then none else hexF 0 (l.drop 2))
  else if l.length < 1 ∨ 10 < l.length then none
  else match decF 0 l with
    | none => none
    | some v => if 4294967295 < v ∨ dec v ≠ l then none else some v
def u32v : Option Nat → Value
  | none => .tuple #[.int .u32 0, .bool false]
  | some v => .tuple #[.int .u32 v, .bool true]
theorem rdig_lt (c : UInt8) : rdig c < 16 := by
  unfold rdig
  simp only [le_nat]
  have e1 : (57 : UInt8).toNat = 57 := rfl
  have e2 : (102 : UInt8).toNat = 102 := rfl
  split
  · omega
  · split <;> omega
theorem decF_lt : ∀ (l : List UInt8) (acc v : Nat), decF acc l = some v → v < (acc + 1) * 10 ^ l.length
  | [], acc, v, h => by rw [decF] at h; injection h with h; simp; omega
  | c :: l, acc, v, h => by
    rw [decF] at h
    split at h
    · rename_i hc
      have := decF_lt l _ v h
      rw [List.length_cons, Nat.pow_succ]
      have h2 : (10 * acc + (c.toNat - 48) + 1) * 10 ^ l.length ≤ (10 * (acc + 1)) * 10 ^ l.length := Nat.mul_le_mul_right _ (by omega)
      have h3 : (acc + 1) * (10 ^ l.length * 10) = (10 * (acc + 1)) * 10 ^ l.length := by rw [Nat.mul_comm (10 ^ l.length) 10, ← Nat.mul_assoc, Nat.mul_comm (acc + 1) 10]
      omega
    · cases h

set_option maxHeartbeats 1000000 in
theorem rparse_hex (s : ByteArray) (w : World) (hs : s.size ≤ 1048576) (h2 : 2 ≤ s.size) (hp : s.data.toList.take 2 = [48, 120]) :
    Calls Tryd.prog 17 #[.string s] w fun e w' => e = .returned (u32v (if s.size < 3 ∨ 10 < s.size then none else hexF 0 (s.data.toList.drop 2))) ∧ Below w.heap.size w w' := by
  have hp' : ((s.extract 0 2).toList == [48, 120]) = true := by rw [toList_data, ByteArray.data_extract]; simp [hp]
  clear hp
  by_cases h1 : s.size < 3 ∨ 10 < s.size
  · rw [if_pos h1]
    rcases h1 with h1 | h1
    all_goals
      go_enter Tryd.func17, Tryd.ntmps17
      go_wp2
      go_ret2
      exact ⟨rfl, Below.refl _ _⟩
  · rw [if_neg h1]
    have h1a : ¬ s.size < 3 := by omega
    have h1b : ¬ 10 < s.size := by omega
    clear h1
    go_enter Tryd.func17, Tryd.ntmps17
    go_wp2
    go_loop [4, 5] (fun v i => ∃ k n : Nat, 2 ≤ k ∧ k ≤ s.size ∧ i = .int .i64 k ∧ v = .int .u32 n ∧ n ≤ 4294967295 ∧ Hid (n < 16 ^ (k - 2)) ∧ Hid (hexF 0 (s.data.toList.drop 2) = hexF n (s.data.toList.drop k)))
      (fun _ i => s.size - (intOf i).toNat)
    case atStart => exact ⟨2, 0, Nat.le_refl _, h2, rfl, rfl, by omega, Lib.hid (by decide), Lib.hid rfl⟩
    case round =>
      obtain ⟨k, n, hk2, hk, rfl, rfl, hn, HN, HD⟩ := hrel
      by_cases hlt : k < s.size
      · have HC := Lib.hid (drop_cons s k hlt)
        have hn9 : n < 268435456 := Nat.lt_of_lt_of_le HN.out (Nat.le_trans (Nat.pow_le_pow_right (by omega) (show k - 2 ≤ 7 by omega)) (by decide))
        have hd16 := rdig_lt s[k]
        by_cases hd : rdig s[k] < 0
        · have e : hexF 0 (s.data.toList.drop 2) = none := by rw [HD.out, HC.out, hexF, if_pos hd]
          have HE := Lib.hid e
          clear e
          go_wp2_with fail
          refine (rdigit_any _ _).mono ?_
          rintro e w' ⟨rfl, rfl⟩
          go_wp2
          go_ret2
          exact ⟨by rw [HE.out]; rfl, Below.refl _ _⟩
        · have hd0 : 0 ≤ rdig s[k] := by omega
          go_wp2_with fail
          refine (rdigit_any _ _).mono ?_
          rintro e w' ⟨rfl, rfl⟩
          go_wp2_with fail
          refine (rdigit_any _ _).mono ?_
          rintro e w' ⟨rfl, rfl⟩
          go_wp2
          go_round
          case rel =>
            refine ⟨k + 1, 16 * n + (rdig s[k]).toNat, by omega, by omega, by go_num, ?_, by omega, Lib.hid ?_, Lib.hid ?_⟩
            · rw [show ((16 * n + (rdig s[k]).toNat : Nat) : Int) = 16 * (n : Int) + rdig s[k] from by omega]
            · have := HN.out
              rw [show k + 1 - 2 = (k - 2) + 1 from by omega, Nat.pow_succ]; omega
            · rw [HD.out, HC.out, hexF, if_neg (by omega)]
          case measure => simp [intOf]; omega
      · have e : hexF 0 (s.data.toList.drop 2) = some n := by
          rw [HD.out, List.drop_of_length_le (by show s.size ≤ k; omega)]; rfl
        have HE := Lib.hid e
        clear e
        go_wp2
        go_ret2
        exact ⟨by rw [HE.out]; rfl, Below.refl _ _⟩

set_option maxHeartbeats 1000000 in
theorem rparse_dec (s : ByteArray) (w : World) (hs : s.size ≤ 1048576) (hp : ¬ (2 ≤ s.size ∧ s.data.toList.take 2 = [48, 120])) :
    Calls Tryd.prog 17 #[.string s] w fun e w' =>
      e = .returned (u32v (if s.size < 1 ∨ 10 < s.size then none else match decF 0 s.data.toList with
        | none => none
        | some v => if 4294967295 < v ∨ dec v ≠ s.data.toList then none else some v)) ∧ Below w.heap.size w w' := by
  have hcase : s.size < 2 ∨ (2 ≤ s.size ∧ ((s.extract 0 2).toList == [48, 120]) = false) := by
    rcases Nat.lt_or_ge s.size 2 with h | h
    · exact .inl h
    · refine .inr ⟨h, ?_⟩
      rw [beq_eq_false_iff_ne, toList_data, ByteArray.data_extract]
      intro e
      refine hp ⟨h, ?_⟩
      simpa using e
  clear hp
  by_cases h1 : s.size < 1 ∨ 10 < s.size
  · rw [if_pos h1]
    have HV : Hid (rdecV s.data.toList 10 = .tuple #[.int .u64 0, .bool false]) := Lib.hid (by rw [rdecV, if_pos (show s.data.toList.length < 1 ∨ 10 < s.data.toList.length from h1)])
    clear h1
    rcases hcase with h | ⟨h, h'⟩
    all_goals
      go_enter Tryd.func17, Tryd.ntmps17
      go_wp2_with fail
      refine (rdecimal_any s 10 _ hs (Nat.le_refl _)).mono ?_
      rintro e w' ⟨rfl, rfl⟩
      rw [HV.out]
      go_wp2
      go_ret2
      exact ⟨rfl, Below.refl _ _⟩
  · rw [if_neg h1]
    rcases hd : decF 0 s.data.toList with _ | v
    · have HV : Hid (rdecV s.data.toList 10 = .tuple #[.int .u64 0, .bool false]) := Lib.hid (by rw [rdecV, if_neg (show ¬ (s.data.toList.length < 1 ∨ 10 < s.data.toList.length) from h1), hd])
      clear h1 hd
      rcases hcase with h | ⟨h, h'⟩
      all_goals
        go_enter Tryd.func17, Tryd.ntmps17
        go_wp2_with fail
        refine (rdecimal_any s 10 _ hs (Nat.le_refl _)).mono ?_
        rintro e w' ⟨rfl, rfl⟩
        rw [HV.out]
        go_wp2
        go_ret2
        exact ⟨rfl, Below.refl _ _⟩
    · have HV : Hid (rdecV s.data.toList 10 = .tuple #[.int .u64 v, .bool true]) := Lib.hid (by rw [rdecV, if_neg (show ¬ (s.data.toList.length < 1 ∨ 10 < s.data.toList.length) from h1), hd])
      have hv : v < 10000000000 := by
        have := decF_lt _ _ _ hd
        have h10 : 10 ^ s.data.toList.length ≤ 10 ^ 10 := Nat.pow_le_pow_right (by omega) (show s.size ≤ 10 by omega)
        omega
      clear hd h1
      by_cases hg : 4294967295 < v
      · have HG : Hid ((if 4294967295 < v ∨ dec v ≠ s.data.toList then none else some v) = none) := Lib.hid (by rw [if_pos (.inl hg)])
        simp only [HG.out]
        rcases hcase with h | ⟨h, h'⟩
        all_goals
          go_enter Tryd.func17, Tryd.ntmps17
          go_wp2_with fail
          refine (rdecimal_any s 10 _ hs (Nat.le_refl _)).mono ?_
          rintro e w' ⟨rfl, rfl⟩
          rw [HV.out]
          go_wp2
          go_ret2
          exact ⟨rfl, Below.refl _ _⟩
      · by_cases hq : dec v = s.data.toList
        · have HG : Hid ((if 4294967295 < v ∨ dec v ≠ s.data.toList then none else some v) = some v) := Lib.hid (by rw [if_neg (by intro h; rcases h with h | h; exact hg h; exact h hq)])
          simp only [HG.out]
          have HQ := Lib.hid hq
          have hne : (decD 20 v == s.toList) = true := by rw [toList_data, beq_iff_eq]; exact hq
          clear hq
          rcases hcase with h | ⟨h, h'⟩
          all_goals
            go_enter Tryd.func17, Tryd.ntmps17
            go_wp2_with fail
            refine (rdecimal_any s 10 _ hs (Nat.le_refl _)).mono ?_
            rintro e w' ⟨rfl, rfl⟩
            rw [HV.out]
            go_wp2_with fail
            refine (rdigits_any 19 v _ (by omega) (by omega) (by omega)).mono ?_
            rintro e w1 ⟨rfl, hb1⟩
            go_wp2
            go_ret2
            exact ⟨rfl, hb1⟩
        · have HG : Hid ((if 4294967295 < v ∨ dec v ≠ s.data.toList then none else some v) = none) := Lib.hid (by rw [if_pos (.inr hq)])
          simp only [HG.out]
          have hne : (decD 20 v == s.toList) = false := by rw [toList_data, beq_eq_false_iff_ne]; exact hq
          clear hq
          rcases hcase with h | ⟨h, h'⟩
          all_goals
            go_enter Tryd.func17, Tryd.ntmps17
            go_wp2_with fail
            refine (rdecimal_any s 10 _ hs (Nat.le_refl _)).mono ?_
            rintro e w' ⟨rfl, rfl⟩
            rw [HV.out]
            go_wp2_with fail
            refine (rdigits_any 19 v _ (by omega) (by omega) (by omega)).mono ?_
            rintro e w1 ⟨rfl, hb1⟩
            go_wp2
            go_ret2
            exact ⟨rfl, hb1⟩

theorem rparseUint32_any (s : ByteArray) (w : World) (hs : s.size ≤ 1048576) :
    Calls Tryd.prog 17 #[.string s] w fun e w' => e = .returned (u32v (rpu32 s.data.toList)) ∧ Below w.heap.size w w' := by
  by_cases h : 2 ≤ s.size ∧ s.data.toList.take 2 = [48, 120]
  · have e : rpu32 s.data.toList = if s.size < 3 ∨ 10 < s.size then none else hexF 0 (s.data.toList.drop 2) := by
      rw [rpu32, if_pos (show 2 ≤ s.data.toList.length ∧ _ from h)]; rfl
    rw [e]
    exact rparse_hex s w hs h.1 h.2
  · have e : rpu32 s.data.toList = if s.size < 1 ∨ 10 < s.size then none else match decF 0 s.data.toList with
        | none => none
        | some v => if 4294967295 < v ∨ dec v ≠ s.data.toList then none else some v := by
      rw [rpu32, if_neg (show ¬ (2 ≤ s.data.toList.length ∧ _) from h)]; rfl
    rw [e]
    exact rparse_dec s w hs h

end Go.Proofs.YtnddfmbgbgiljaaDoor
