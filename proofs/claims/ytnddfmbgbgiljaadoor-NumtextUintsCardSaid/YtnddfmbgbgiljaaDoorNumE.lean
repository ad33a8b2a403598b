/- The walks of the reference's FormatInt, FormatUint32, ParseInt. No condition but the range and the length of the text. -/
import Derived.Test.YtnddfmbgbgiljaaDoorNumD
import Derived.Test.YtnddfmbgbgiljaaDoorRefB
namespace Go.Proofs.YtnddfmbgbgiljaaDoor
open Go.RowKit

theorem itoa_nonneg (n : Int) (h : 0 ≤ n) (h1 : n ≤ 9223372036854775807) : Lib.itoa n = dec n.toNat := by
  rw [Lib.itoa, if_neg (by omega), dec, dec_eq 20 _ (by omega) (by omega)]
theorem itoa_neg (n : Int) (h : n < 0) (h0 : -9223372036854775808 ≤ n) : Lib.itoa n = 45 :: dec n.natAbs := by
  rw [Lib.itoa, if_pos h, dec, dec_eq 20 _ (by omega) (by omega)]

set_option maxHeartbeats 400000 in
theorem rfmtInt_pos (n : Nat) (h1 : n ≤ 9223372036854775807) (w : World) :
    Calls Tryd.prog 10 #[.int .i64 n] w fun e w' => e = .returned (.string ⟨(dec n).toArray⟩) ∧ Below w.heap.size w w' := by
  go_enter Tryd.func10, Tryd.ntmps10
  go_wp2_with fail
  refine (rdigits_any 19 n _ (by omega) (by omega) (by omega)).mono ?_
  rintro e w1 ⟨rfl, hb1⟩
  go_wp2
  go_ret
  exact ⟨rfl, hb1⟩

set_option maxHeartbeats 400000 in
theorem rfmtInt_neg (m : Nat) (h1 : m ≤ 9223372036854775807) (w : World) :
    Calls Tryd.prog 10 #[.int .i64 (-(m : Int) - 1)] w fun e w' => e = .returned (.string ⟨(45 :: dec (m + 1)).toArray⟩) ∧ Below w.heap.size w w' := by
  obtain ⟨n, hn⟩ : ∃ n : Int, n = -(m : Int) - 1 := ⟨_, rfl⟩
  rw [← hn]
  have ha : -(n + 1) = (m : Int) := by omega
  have hlt : ¬ 0 ≤ n := by omega
  have hr0 : -9223372036854775808 ≤ n := by omega
  have HN := Lib.hid hn
  clear hn
  go_enter Tryd.func10, Tryd.ntmps10
  go_wp2_with fail
  refine (rdigits_any 19 (m + 1) _ (by omega) (by omega) (by omega)).mono ?_
  rintro e w1 ⟨rfl, hb1⟩
  have hl := decD_len 20 (m + 1)
  go_wp2
  go_ret
  exact ⟨rfl, hb1⟩

theorem rfmtInt_any (n : Int) (h0 : -9223372036854775808 ≤ n) (h1 : n ≤ 9223372036854775807) (w : World) :
    Calls Tryd.prog 10 #[.int .i64 n] w fun e w' => e = .returned (.string ⟨(Lib.itoa n).toArray⟩) ∧ Below w.heap.size w w' := by
  by_cases h : 0 ≤ n
  · rw [itoa_nonneg n h h1]
    have := rfmtInt_pos n.toNat (by omega) w
    rw [show ((n.toNat : Nat) : Int) = n from by omega] at this
    exact this
  · rw [itoa_neg n (by omega) h0]
    have := rfmtInt_neg (n.natAbs - 1) (by omega) w
    rw [show -((n.natAbs - 1 : Nat) : Int) - 1 = n from by omega, show n.natAbs - 1 + 1 = n.natAbs from by omega] at this
    exact this

set_option maxHeartbeats 400000 in
theorem rfmtUint32_any (v : Nat) (hv : v < 4294967296) (w : World) :
    Calls Tryd.prog 12 #[.int .u32 v] w fun e w' => e = .returned (.string ⟨(dec v).toArray⟩) ∧ Below w.heap.size w w' := by
  go_enter Tryd.func12, Tryd.ntmps12
  go_wp2_with fail
  refine (rdigits_any 19 v _ (by omega) (by omega) (by omega)).mono ?_
  rintro e w1 ⟨rfl, hb1⟩
  go_wp2
  go_ret
  exact ⟨rfl, hb1⟩

def rpintL (neg : Bool) (t l : List UInt8) : Option Int :=
  if t.length < 1 ∨ 9 < t.length then none else match decF 0 t with
    | none => none
    | some v => if Lib.itoa (if neg = true then -(v : Int) else v) = l then some (if neg = true then -(v : Int) else v) else none
theorem rdecV_cases (t : List UInt8) (neg : Bool) (l : List UInt8) :
    (rdecV t 9 = .tuple #[.int .u64 0, .bool false] ∧ rpintL neg t l = none) ∨
    ∃ v : Nat, v < 1000000000 ∧ rdecV t 9 = .tuple #[.int .u64 v, .bool true] ∧
      rpintL neg t l = if Lib.itoa (if neg = true then -(v : Int) else v) = l then some (if neg = true then -(v : Int) else v) else none := by
  by_cases h : t.length < 1 ∨ 9 < t.length
  · exact .inl ⟨by rw [rdecV, if_pos h], by rw [rpintL, if_pos h]⟩
  · rcases hd : decF 0 t with _ | v
    · exact .inl ⟨by rw [rdecV, if_neg h, hd], by rw [rpintL, if_neg h, hd]⟩
    · refine .inr ⟨v, ?_, by rw [rdecV, if_neg h, hd], by rw [rpintL, if_neg h, hd]⟩
      have := decF_lt _ _ _ hd
      have h10 : 10 ^ t.length ≤ 10 ^ 9 := Nat.pow_le_pow_right (by omega) (by omega)
      omega

set_option maxHeartbeats 1000000 in
theorem rparseInt_plus (s : ByteArray) (w : World) (hm : s.size ≤ 1048576) (hp : s.size = 0 ∨ ∃ h : 0 < s.size, ((s[0].toNat : Int) == 45) = false) :
    Calls Tryd.prog 15 #[.string s] w fun e w' => e = .returned (pintV (rpintL false s.data.toList s.data.toList)) ∧ Below w.heap.size w w' := by
  have HC := Lib.hid (rdecV_cases s.data.toList false s.data.toList)
  rcases hp with h | ⟨h, hx⟩
  all_goals
    rcases HC.out with ⟨h1, h2⟩ | ⟨v, hv, h1, h2⟩
    · have H1 := Lib.hid h1
      have H2 := Lib.hid h2
      clear h1 h2 HC
      go_enter Tryd.func15, Tryd.ntmps15
      go_wp2_with fail
      refine (rdecimal_any s 9 _ hm (by omega)).mono ?_
      rintro e w' ⟨rfl, rfl⟩
      rw [H1.out]
      go_wp2
      go_ret2
      exact ⟨by rw [H2.out]; rfl, Below.refl _ _⟩
    · have H1 := Lib.hid h1
      simp only [Bool.false_eq_true, if_false] at h2
      by_cases hq : Lib.itoa (v : Int) = s.data.toList
      · rw [if_pos hq] at h2
        have H2 := Lib.hid h2
        have hne : (Lib.itoa (v : Int) == s.toList) = true := by rw [toList_data, beq_iff_eq]; exact hq
        clear h1 h2 HC hq
        go_enter Tryd.func15, Tryd.ntmps15
        go_wp2_with fail
        refine (rdecimal_any s 9 _ hm (by omega)).mono ?_
        rintro e w' ⟨rfl, rfl⟩
        rw [H1.out]
        go_wp2_with fail
        refine (rfmtInt_any v (by omega) (by omega) _).mono ?_
        rintro e w1 ⟨rfl, hb1⟩
        go_wp2
        go_ret2
        exact ⟨by rw [H2.out]; rfl, hb1⟩
      · rw [if_neg hq] at h2
        have H2 := Lib.hid h2
        have hne : (Lib.itoa (v : Int) == s.toList) = false := by rw [toList_data, beq_eq_false_iff_ne]; exact hq
        clear h1 h2 HC hq
        go_enter Tryd.func15, Tryd.ntmps15
        go_wp2_with fail
        refine (rdecimal_any s 9 _ hm (by omega)).mono ?_
        rintro e w' ⟨rfl, rfl⟩
        rw [H1.out]
        go_wp2_with fail
        refine (rfmtInt_any v (by omega) (by omega) _).mono ?_
        rintro e w1 ⟨rfl, hb1⟩
        go_wp2
        go_ret2
        exact ⟨by rw [H2.out]; rfl, hb1⟩

set_option maxHeartbeats 1000000 in
theorem rparseInt_minus (s : ByteArray) (w : World) (hm : s.size ≤ 1048576) (h : 0 < s.size) (hx : ((s[0].toNat : Int) == 45) = true) (ds : List UInt8) (hds : s.data.toList.drop 1 = ds) :
    Calls Tryd.prog 15 #[.string s] w fun e w' => e = .returned (pintV (rpintL true ds s.data.toList)) ∧ Below w.heap.size w w' := by
  have HC := Lib.hid (rdecV_cases ds true s.data.toList)
  have hd1 : (s.extract 1 s.size).data.toList = ds := by
    rw [ByteArray.data_extract, ← hds]
    simp
    exact List.take_of_length_le (by simp)
  have HD := Lib.hid hd1
  clear hd1 hds
  have hlt : s.size - 1 < s.size := by omega
  have hsz : (s.extract 1 s.size).size = s.size - 1 := by simp
  rcases HC.out with ⟨h1, h2⟩ | ⟨v, hv, h1, h2⟩
  · have H1 := Lib.hid h1
    have H2 := Lib.hid h2
    clear h1 h2 HC
    go_enter Tryd.func15, Tryd.ntmps15
    go_wp2_with fail
    refine (rdecimal_any (s.extract 1 s.size) 9 _ (by omega) (by omega)).mono ?_
    rintro e w' ⟨rfl, rfl⟩
    rw [HD.out, H1.out]
    go_wp2
    go_ret2
    exact ⟨by rw [H2.out]; rfl, Below.refl _ _⟩
  · have H1 := Lib.hid h1
    simp only [if_true] at h2
    by_cases hq : Lib.itoa (-(v : Int)) = s.data.toList
    · rw [if_pos hq] at h2
      have H2 := Lib.hid h2
      have hne : (Lib.itoa (-(v : Int)) == s.toList) = true := by rw [toList_data, beq_iff_eq]; exact hq
      clear h1 h2 HC hq
      go_enter Tryd.func15, Tryd.ntmps15
      go_wp2_with fail
      refine (rdecimal_any (s.extract 1 s.size) 9 _ (by omega) (by omega)).mono ?_
      rintro e w' ⟨rfl, rfl⟩
      rw [HD.out, H1.out]
      go_wp2_with fail
      refine (rfmtInt_any (-(v : Int)) (by omega) (by omega) _).mono ?_
      rintro e w1 ⟨rfl, hb1⟩
      go_wp2
      go_ret2
      exact ⟨by rw [H2.out]; rfl, hb1⟩
    · rw [if_neg hq] at h2
      have H2 := Lib.hid h2
      have hne : (Lib.itoa (-(v : Int)) == s.toList) = false := by rw [toList_data, beq_eq_false_iff_ne]; exact hq
      clear h1 h2 HC hq
      go_enter Tryd.func15, Tryd.ntmps15
      go_wp2_with fail
      refine (rdecimal_any (s.extract 1 s.size) 9 _ (by omega) (by omega)).mono ?_
      rintro e w' ⟨rfl, rfl⟩
      rw [HD.out, H1.out]
      go_wp2_with fail
      refine (rfmtInt_any (-(v : Int)) (by omega) (by omega) _).mono ?_
      rintro e w1 ⟨rfl, hb1⟩
      go_wp2
      go_ret2
      exact ⟨by rw [H2.out]; rfl, hb1⟩

def rpint (l : List UInt8) : Option Int := if l.head? = some 45 then rpintL true (l.drop 1) l else rpintL false l l
theorem rparseInt_any (s : ByteArray) (w : World) (hm : s.size ≤ 1048576) :
    Calls Tryd.prog 15 #[.string s] w fun e w' => e = .returned (pintV (rpint s.data.toList)) ∧ Below w.heap.size w w' := by
  rcases Nat.eq_zero_or_pos s.size with h | h
  · have hn : s.data.toList = [] := List.eq_nil_of_length_eq_zero h
    rw [rpint, if_neg (by rw [hn]; simp)]
    exact rparseInt_plus s w hm (.inl h)
  · have h0 : s.data.toList.head? = some s[0] := by
      rw [List.head?_eq_getElem?]; exact Lib.data_getElem? s 0 h
    by_cases hx : s[0] = 45
    · rw [rpint, if_pos (by rw [h0, hx])]
      exact rparseInt_minus s w hm h (by rw [hx]; rfl) _ rfl
    · rw [rpint, if_neg (by rw [h0]; intro e; injection e with e; exact hx e)]
      refine rparseInt_plus s w hm (.inr ⟨h, beq_eq_false_iff_ne.2 fun e => hx ?_⟩)
      rw [← UInt8.toNat_inj]
      have : (45 : UInt8).toNat = 45 := rfl
      omega

end Go.Proofs.YtnddfmbgbgiljaaDoor
