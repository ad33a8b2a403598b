/- The law LexerLimits, walked. No condition. -/
import Derived.Test.YtnddfmbgbgiljaaLawG
import Derived.Lib.AppendStr
namespace Go.Proofs.Ytnddfmbgbgiljaa
open Go.RowKit

def rep : Nat → List UInt8 → List UInt8
  | 0, _ => []
  | n + 1, l => l ++ rep n l
theorem rep_snoc : ∀ (n : Nat) (l : List UInt8), rep (n + 1) l = rep n l ++ l
  | 0, l => by simp [rep]
  | n + 1, l => by
    have ih := rep_snoc n l
    show l ++ rep (n + 1) l = (l ++ rep n l) ++ l
    rw [ih, List.append_assoc]
theorem rep_len : ∀ (n : Nat) (l : List UInt8), (rep n l).length = n * l.length
  | 0, l => by simp [rep]
  | n + 1, l => by
    show (l ++ rep n l).length = _
    rw [List.length_append, rep_len n l, Nat.succ_mul]; omega
theorem strCells_eq (s : ByteArray) : Lib.strCells s = byteVals s.data.toList := rfl

set_option maxHeartbeats 1000000 in
theorem repeat_any (s : ByteArray) (n : Nat) (w : World) (hs : s.size ≤ 2) (hn : n ≤ 20000) :
    Calls Try.prog 12 #[.string s, .int .i64 n] w fun e w' => e = .returned (.string ⟨(rep n s.data.toList).toArray⟩) ∧ Below w.heap.size w w' := by
  obtain ⟨i0, hi, hz0, hz1, hz2⟩ := info_parts Try.infoByte
  go_enter Try.func12, Try.ntmps12
  go_wp2
  go_loopw [5, 6] (fun bv iv wr => ∃ (k : Nat) (l : List UInt8) (B : Option Addr) (d : Nat), k ≤ n ∧ iv = .int .i64 k ∧ bv = .slice B l.length d ∧ l.length ≤ 2 * k ∧
      Hid (l = rep k s.data.toList) ∧ wr.ownsRow w.heap.size 5 1 (.slice B l.length d) l.length (byteVals l) ∧ Below w.heap.size w wr) (fun _ iv _ => n - (intOf iv).toNat)
  case atStart => exact ⟨0, [], none, 0, Nat.zero_le _, rfl, rfl, Nat.le_refl _, Lib.hid rfl, World.ownsRow_nil _ _ _ _, Below.refl _ _⟩
  case round =>
    obtain ⟨k, l, B, d, hk, rfl, rfl, hl, HL, hown, hbel⟩ := hrel
    by_cases hlt : k < n
    · have hl1 : (l ++ s.data.toList).length = l.length + s.size := by rw [List.length_append]; rfl
      have HL1 := Lib.hid hl1
      clear hl1
      go_wp2_with (first
        | (at_builtin; refine Lib.wpList_append_own_string _ rfl _ _ 35 9 rfl w.heap.size 5 i0 Try.underlying35 Try.underlying9 hi hz0 hz1 hz2 _ _ _ rfl hown s rfl ?c1 ?c2 ?c3 ?_))
      case c1 => unfold maxLen; omega
      case c2 => omega
      case c3 => exact hbel.size
      intro v' w2 hown2 hgrow _
      rw [strCells_eq, ← byteVals_app] at hown2
      have hbel2 : Below w.heap.size w w2 := hbel.grown hgrow hbel.size fun k hk => (hown.lt k hk).1
      have HB2 := Lib.hid hbel2
      have HO := Lib.hid hown2
      obtain ⟨B', d', hv, _⟩ := own_slice hown2
      have HV := Lib.hid hv
      clear hbel2 hown2 hgrow hbel hown hv
      go_wp2
      go_roundw
      case rel =>
        refine ⟨k + 1, l ++ s.data.toList, B', d', by omega, by go_num, by rw [HL1.out]; exact HV.out, by rw [HL1.out]; omega, Lib.hid (by rw [rep_snoc, ← HL.out]), ?_, HB2.out⟩
        rw [HL1.out, ← HV.out]
        exact HO.out
      case measure => simp [intOf]; omega
    · have hkn : k = n := by omega
      have HK := Lib.hid hkn
      clear hkn
      have hcv : (convert 35 9 (.slice B l.length d)).run Try.prog wr = .ok (.string ⟨l.toArray⟩) wr := conv_own hown
      have HBL := Lib.hid hbel
      clear hown hbel
      go_wp2
      go_ret
      exact ⟨by rw [← HK.out, ← HL.out]; rfl, HBL.out⟩

theorem tok_semi : ∀ (n m : Nat) (at_ : Nat) (out : List Tk), 2 * m ≤ n → (out.length + m ≤ 4096 → ∃ ts, ts.length = m ∧ tokM n (rep m [59, 32]) at_ out = (out ++ ts, 0, 0)) ∧
    (4096 < out.length + m → out.length ≤ 4096 → tokM n (rep m [59, 32]) at_ out = ([], at_, 12))
  | n, 0, at_, out, _ => ⟨fun _ => ⟨[], rfl, by cases n <;> simp [tokM, rep]⟩, fun h h' => by omega⟩
  | 0, m + 1, at_, out, h => by omega
  | 1, m + 1, at_, out, h => by omega
  | n + 2, m + 1, at_, out, h => by
    have e : rep (m + 1) [59, 32] = 59 :: 32 :: rep m [59, 32] := rfl
    have hn : nextM (59 :: 32 :: rep m [59, 32]) = (⟨3, [59], 0, 0⟩, 0) := by
      have hs : sym (59 :: 32 :: rep m [59, 32]) = 1 := by
        rw [sym_cons _ _ (by show [59, 32] ∉ twos; decide), if_pos (by decide)]
      simp only [nextM]
      rw [if_neg (by decide), if_neg (by decide), hs, if_neg (by decide)]
      rfl
    rw [e, tokM, if_neg (by decide), if_neg (by decide), if_neg (by decide)]
    by_cases h4 : 4096 ≤ out.length
    · rw [if_pos h4]
      exact ⟨fun h' => by omega, fun _ _ => rfl⟩
    · rw [if_neg h4, hn, if_pos rfl]
      have e2 : (59 :: 32 :: rep m [59, 32]).drop ([59] : List UInt8).length = 32 :: rep m [59, 32] := rfl
      simp only [e2]
      rw [tokM, if_neg (by decide), if_pos (.inl rfl)]
      obtain ⟨h1, h2⟩ := tok_semi n m at_ (out ++ [⟨3, [59], 0, at_⟩]) (by omega)
      rw [List.length_append, List.length_singleton] at h1 h2
      refine ⟨fun h' => ?_, fun h' _ => h2 (by omega) (by omega)⟩
      obtain ⟨ts, a1, a2⟩ := h1 (by omega)
      exact ⟨⟨3, [59], 0, at_⟩ :: ts, by simp [a1], by rw [a2, List.append_assoc]; rfl⟩
theorem tok_blank : ∀ (n m : Nat) (at_ : Nat), tokM n (rep m [32]) at_ [] = ([], 0, 0)
  | 0, _, _ => rfl
  | n + 1, 0, _ => rfl
  | n + 1, m + 1, at_ => by
    show tokM (n + 1) (32 :: rep m [32]) at_ [] = _
    rw [tokM, if_neg (by decide), if_pos (.inl rfl)]
    exact tok_blank n m at_
theorem ext_q : ∀ m, ext isWord (rep m [113]) = m
  | 0 => rfl
  | m + 1 => by
    show ext isWord (113 :: rep m [113]) = _
    rw [ext, if_pos (by decide), ext_q m]
theorem next_q (m : Nat) : nextM (rep (m + 1) [113]) = if 16 < m + 1 then (Tk.zero, 4) else (⟨1, rep (m + 1) [113], 0, 0⟩, 0) := by
  have h := ext_q (m + 1)
  have hl := rep_len (m + 1) [113]
  have e : rep (m + 1) [113] = 113 :: rep m [113] := rfl
  rw [e] at h hl ⊢
  simp only [nextM]
  rw [if_pos (by decide), h]
  rw [List.take_of_length_le (by rw [hl]; simp)]

theorem limits_1 (m : Nat) (hm : m ≤ 4103) : (m ≤ 4096 → ∃ ts, ts.length = m ∧ tokenize (10 :: rep m [59, 32]) = (ts, 0, 0)) ∧ (4096 < m → tokenize (10 :: rep m [59, 32]) = ([], 2, 12)) := by
  have hl : (rep m [59, 32]).length = m * 2 := rep_len m [59, 32]
  have e : tokenize (10 :: rep m [59, 32]) = tokM (m * 2) (rep m [59, 32]) 2 [] := by
    rw [tokenize, if_neg (by rw [List.length_cons, hl]; omega), List.length_cons, hl, tokM, if_pos rfl]
  rw [e]
  obtain ⟨h1, h2⟩ := tok_semi (m * 2) m 2 [] (by omega)
  exact ⟨fun h => by simpa using h1 (by simpa using h), fun h => h2 (by simpa using h) (by simp)⟩
theorem limits_2 (m : Nat) : (m ≤ 16384 → tokenize (rep m [32]) = ([], 0, 0)) ∧ (16384 < m → tokenize (rep m [32]) = ([], 0, 4)) := by
  have hl : (rep m [32]).length = m * 1 := rep_len m [32]
  refine ⟨fun h => ?_, fun h => ?_⟩
  · rw [tokenize, if_neg (by omega)]; exact tok_blank _ _ _
  · rw [tokenize, if_pos (by omega)]
theorem limits_3 (m : Nat) (hm : m + 1 ≤ 23) : (m + 1 ≤ 16 → ∃ t, tokenize (10 :: 10 :: rep (m + 1) [113]) = ([t], 0, 0)) ∧ (16 < m + 1 → tokenize (10 :: 10 :: rep (m + 1) [113]) = ([], 3, 4)) := by
  have hl : (rep (m + 1) [113]).length = (m + 1) * 1 := rep_len (m + 1) [113]
  have e : tokenize (10 :: 10 :: rep (m + 1) [113]) = tokM ((m + 1) * 1) (rep (m + 1) [113]) 3 [] := by
    rw [tokenize, if_neg (by simp only [List.length_cons, hl]; omega), List.length_cons, List.length_cons, hl, tokM, if_pos rfl, tokM, if_pos rfl]
  have e2 : tokM ((m + 1) * 1) (rep (m + 1) [113]) 3 [] = if (nextM (rep (m + 1) [113])).2 = 0 then tokM m ((rep (m + 1) [113]).drop (nextM (rep (m + 1) [113])).1.text.length) 3 ([] ++ [{ (nextM (rep (m + 1) [113])).1 with line := 3 }]) else ([], 3, (nextM (rep (m + 1) [113])).2) := by
    rw [Nat.mul_one]
    have e : rep (m + 1) [113] = 113 :: rep m [113] := rfl
    rw [e, tokM, if_neg (by decide), if_neg (by decide), if_neg (by decide), if_neg (by simp)]
  rw [e, e2, next_q]
  refine ⟨fun h => ?_, fun h => ?_⟩
  · rw [if_neg (show ¬ 16 < m + 1 by omega)]
    refine ⟨⟨1, rep (m + 1) [113], 0, 3⟩, ?_⟩
    simp only [List.drop_length, if_true]
    cases m <;> rfl
  · rw [if_pos h, if_neg (by decide)]

theorem byte_range {n : Int} (h : (Lit.int .u8 n).wf = true) : 0 ≤ n ∧ n ≤ 255 := by
  have hmin : IntKind.u8.min = 0 := rfl
  have hmax : IntKind.u8.max = 255 := rfl
  simp only [Lit.wf, Bool.and_eq_true, decide_eq_true_eq] at h
  omega

set_option maxRecDepth 100000 in
set_option maxHeartbeats 2000000 in
theorem law_limits (n k : Int) (w : World) (hn : (Lit.int .u8 n).wf = true) (hk : (Lit.int .u8 k).wf = true) :
    Calls Try.prog 6 #[.int .u8 n, .int .u8 k] w fun e w' => e = .returned (.bool true) ∧ Below w.heap.size w w' := by
  obtain ⟨hn0, hn1⟩ := byte_range hn
  obtain ⟨hk0, hk1⟩ := byte_range hk
  clear hn hk
  obtain ⟨m, hm⟩ : ∃ m : Nat, n % 16 = m := ⟨(n % 16).toNat, by omega⟩
  obtain ⟨j, hj⟩ : ∃ j : Nat, k % 16 = j := ⟨(k % 16).toNat, by omega⟩
  have hm15 : m ≤ 15 := by omega
  have hj15 : j ≤ 15 := by omega
  have HM := Lib.hid hm
  have HJ := Lib.hid hj
  clear hm hj
  have hcat1 : ∀ l : List UInt8, l.length ≤ 20000 → ((⟨#[10]⟩ : ByteArray) ++ ⟨l.toArray⟩).size ≤ maxLen ∧ ((⟨#[10]⟩ : ByteArray) ++ ⟨l.toArray⟩).data.toList = 10 :: l := by
    intro l hl
    have e : ((⟨#[10]⟩ : ByteArray) ++ ⟨l.toArray⟩).data.toList = 10 :: l := by simp
    refine ⟨?_, e⟩
    have : ((⟨#[10]⟩ : ByteArray) ++ ⟨l.toArray⟩).size = ((⟨#[10]⟩ : ByteArray) ++ ⟨l.toArray⟩).data.toList.length := rfl
    rw [this, e, List.length_cons]; unfold maxLen; omega
  have hcat2 : ∀ l : List UInt8, l.length ≤ 20000 → ((⟨#[10, 10]⟩ : ByteArray) ++ ⟨l.toArray⟩).size ≤ maxLen ∧ ((⟨#[10, 10]⟩ : ByteArray) ++ ⟨l.toArray⟩).data.toList = 10 :: 10 :: l := by
    intro l hl
    have e : ((⟨#[10, 10]⟩ : ByteArray) ++ ⟨l.toArray⟩).data.toList = 10 :: 10 :: l := by simp
    refine ⟨?_, e⟩
    have : ((⟨#[10, 10]⟩ : ByteArray) ++ ⟨l.toArray⟩).size = ((⟨#[10, 10]⟩ : ByteArray) ++ ⟨l.toArray⟩).data.toList.length := rfl
    rw [this, e, List.length_cons, List.length_cons]; unfold maxLen; omega
  have hl1 := rep_len (4088 + m) [59, 32]
  have hl2 := rep_len (16376 + j) [32]
  have hl3 := rep_len (8 + m) [113]
  simp only [List.length_cons, List.length_nil] at hl1 hl2 hl3
  have C1 := Lib.hid (hcat1 (rep (4088 + m) [59, 32]) (by omega))
  have C2 : Hid ((⟨(rep (16376 + j) [32]).toArray⟩ : ByteArray).size ≤ maxLen) := Lib.hid (by show (rep (16376 + j) [32]).length ≤ maxLen; unfold maxLen; omega)
  have C3 := Lib.hid (hcat2 (rep (8 + m) [113]) (by omega))
  clear hcat1 hcat2
  obtain ⟨X1, hX1⟩ : ∃ X, rep (4088 + m) [59, 32] = X := ⟨_, rfl⟩
  obtain ⟨X2, hX2⟩ : ∃ X, rep (16376 + j) [32] = X := ⟨_, rfl⟩
  obtain ⟨X3, hX3⟩ : ∃ X, rep (8 + m) [113] = X := ⟨_, rfl⟩
  have r1 : ∃ t1 c1 e1, tokenize (10 :: X1) = (t1, c1, e1) ∧ ((m ≤ 8 ∧ t1.length = 4088 + m ∧ c1 = 0 ∧ e1 = 0) ∨ (8 < m ∧ t1 = [] ∧ c1 = 2 ∧ e1 = 12)) := by
    obtain ⟨h1, h2⟩ := limits_1 (4088 + m) (by omega)
    rw [hX1] at h1 h2
    by_cases h : m ≤ 8
    · obtain ⟨ts, a1, a2⟩ := h1 (by omega)
      exact ⟨ts, 0, 0, a2, .inl ⟨h, a1, rfl, rfl⟩⟩
    · exact ⟨[], 2, 12, h2 (by omega), .inr ⟨by omega, rfl, rfl, rfl⟩⟩
  have r2 : ∃ e2, tokenize X2 = ([], 0, e2) ∧ ((j ≤ 8 ∧ e2 = 0) ∨ (8 < j ∧ e2 = 4)) := by
    obtain ⟨h1, h2⟩ := limits_2 (16376 + j)
    rw [hX2] at h1 h2
    by_cases h : j ≤ 8
    · exact ⟨0, h1 (by omega), .inl ⟨h, rfl⟩⟩
    · exact ⟨4, h2 (by omega), .inr ⟨by omega, rfl⟩⟩
  have r3 : ∃ t3 c3 e3, tokenize (10 :: 10 :: X3) = (t3, c3, e3) ∧ ((m ≤ 8 ∧ t3.length = 1 ∧ c3 = 0 ∧ e3 = 0) ∨ (8 < m ∧ t3 = [] ∧ c3 = 3 ∧ e3 = 4)) := by
    obtain ⟨h1, h2⟩ := limits_3 (7 + m) (by omega)
    rw [show 7 + m + 1 = 8 + m from by omega, hX3] at h1 h2
    by_cases h : m ≤ 8
    · obtain ⟨t, a2⟩ := h1 (by omega)
      exact ⟨[t], 0, 0, a2, .inl ⟨h, rfl, rfl, rfl⟩⟩
    · exact ⟨[], 3, 4, h2 (by omega), .inr ⟨by omega, rfl, rfl, rfl⟩⟩
  obtain ⟨t1, c1, e1, q1, r1⟩ := r1
  obtain ⟨e2, q2, r2⟩ := r2
  obtain ⟨t3, c3, e3, q3, r3⟩ := r3
  have Q1 := Lib.hid q1
  have Q2 := Lib.hid q2
  have Q3 := Lib.hid q3
  have X1H := Lib.hid hX1
  have X2H := Lib.hid hX2
  have X3H := Lib.hid hX3
  rw [hX1] at C1
  rw [hX2] at C2
  rw [hX3] at C3
  have z1 : X1.length ≤ 20000 := by rw [← hX1]; omega
  have z3 : X3.length ≤ 20000 := by rw [← hX3]; omega
  clear q1 q2 q3 hX1 hX2 hX3 hl1 hl2 hl3
  rcases r1 with ⟨m8, L1, rfl, rfl⟩ | ⟨m8, rfl, rfl, rfl⟩ <;> rcases r2 with ⟨j8, rfl⟩ | ⟨j8, rfl⟩ <;> rcases r3 with ⟨m8', L3, rfl, rfl⟩ | ⟨m8', rfl, rfl, rfl⟩
  all_goals first
    | (exfalso; omega)
    | skip
  all_goals
    try (have L1H := Lib.hid L1; clear L1)
    try (have L3H := Lib.hid L3; clear L3)
    go_enter Try.func6, Try.ntmps6
    go_wp2_with fail
    rw [HM.out, show (4088 + (m : Int)) = ((4088 + m : Nat) : Int) from by omega]
    refine (repeat_any ⟨#[59, 32]⟩ _ _ (by decide) (by omega)).mono ?_
    rintro e w1 ⟨rfl, hb1⟩
    rw [show (⟨#[59, 32]⟩ : ByteArray).data.toList = [59, 32] from rfl, X1H.out]
    go_wp2_with fail
    refine (tokenize_any _ _ C1.out.1).mono ?_
    rintro e w2 ⟨A1, d1, rfl, _, hown1, hb2⟩
    rw [C1.out.2, Q1.out]
    clear hown1
    try rw [L1H.out]
    try rw [List.length_nil]
    have B2 := Lib.hid (hb1.trans (hb2.mono hb1.size))
    clear hb1 hb2
    go_wp2_with fail
    rw [HJ.out, show (16376 + (j : Int)) = ((16376 + j : Nat) : Int) from by omega]
    refine (repeat_any ⟨#[32]⟩ _ _ (by decide) (by omega)).mono ?_
    rintro e w3 ⟨rfl, hb3⟩
    rw [show (⟨#[32]⟩ : ByteArray).data.toList = [32] from rfl, X2H.out]
    go_wp2_with fail
    refine (tokenize_any _ _ C2.out).mono ?_
    rintro e w4 ⟨A2, d2, rfl, _, hown2, hb4⟩
    rw [show (⟨X2.toArray⟩ : ByteArray).data.toList = X2 from rfl, Q2.out]
    clear hown2
    have B3 := B2.out.trans (hb3.mono B2.out.size)
    have B4 := Lib.hid (B3.trans (hb4.mono B3.size))
    clear B3 hb3 hb4
    go_wp2_with fail
    rw [HM.out, show (8 + (m : Int)) = ((8 + m : Nat) : Int) from by omega]
    refine (repeat_any ⟨#[113]⟩ _ _ (by decide) (by omega)).mono ?_
    rintro e w5 ⟨rfl, hb5⟩
    rw [show (⟨#[113]⟩ : ByteArray).data.toList = [113] from rfl, X3H.out]
    go_wp2_with fail
    refine (tokenize_any _ _ C3.out.1).mono ?_
    rintro e w6 ⟨A3, d3, rfl, _, hown3, hb6⟩
    rw [C3.out.2, Q3.out]
    clear hown3
    try rw [L3H.out]
    try rw [List.length_nil]
    have B5 := B4.out.trans (hb5.mono B4.out.size)
    have B6 := Lib.hid (B5.trans (hb6.mono B5.size))
    clear B5 hb5 hb6
    first | (have f1 : decide ((4088 : Int) + (m : Int) ≤ 4096) = true := decide_eq_true (by omega)) | (have f1 : decide ((4088 : Int) + (m : Int) ≤ 4096) = false := decide_eq_false (by omega))
    first | (have f2 : decide ((16376 : Int) + (j : Int) ≤ 16384) = true := decide_eq_true (by omega)) | (have f2 : decide ((16376 : Int) + (j : Int) ≤ 16384) = false := decide_eq_false (by omega))
    first | (have f3 : decide ((8 : Int) + (m : Int) ≤ 16) = true := decide_eq_true (by omega)) | (have f3 : decide ((8 : Int) + (m : Int) ≤ 16) = false := decide_eq_false (by omega))
    go_wp2_with fail
    refine (works_any _).mono ?_
    rintro e w' ⟨rfl, hb7⟩
    go_wp2
    go_ret
    exact ⟨rfl, B6.out.trans (hb7.mono B6.out.size)⟩

end Go.Proofs.Ytnddfmbgbgiljaa
