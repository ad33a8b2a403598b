/- Walks of the reference lexer's small functions. No condition but the length of the text. -/
import Derived.Test.YtnddfmbgbgiljaaLexF
import Derived.Test.YtnddfmbgbgiljaaNumLaw
namespace Go.Proofs.Ytnddfmbgbgiljaa
open Go.RowKit

set_option maxHeartbeats 400000 in
theorem rdig5_any (c : Int) (w : World) :
    Calls Try.prog 24 #[.int .u8 c] w fun e w' => e = .returned (.bool (isDig c)) ∧ w = w' := by
  go_enter Try.func24, Try.ntmps24
  go_wp2
  all_goals (go_ret; exact ⟨ret_bool (by rw [Bool.eq_iff_iff]; simp [isDig]; omega), rfl⟩)
set_option maxHeartbeats 400000 in
theorem rhexd_any (c : Int) (w : World) :
    Calls Try.prog 41 #[.int .u8 c] w fun e w' => e = .returned (.bool (isHexd c)) ∧ w = w' := by
  go_enter Try.func41, Try.ntmps41
  go_wp2_with (first
    | (go_at_call 24; refine (rdig5_any _ _).mono ?_; rintro e w' ⟨rfl, rfl⟩))
  all_goals (go_ret; exact ⟨ret_bool (by rw [Bool.eq_iff_iff]; simp [isHexd, *]; try omega), rfl⟩)

theorem ext_step {p : Int → Bool} {l : List UInt8} {k : Nat} (hk : k ≤ ext p l) (hlt : k < l.length) (hp : p ((l[k]'hlt).toNat : Nat) = true) : k + 1 ≤ ext p l := by
  rcases Nat.lt_or_ge k (ext p l) with h | h
  · exact h
  · have e : ext p l = k := by omega
    have := ext_stop p l (by omega)
    simp only [e] at this
    rw [hp] at this
    cases this
theorem ext_end {p : Int → Bool} {l : List UInt8} {k : Nat} (hk : k ≤ ext p l) (hlt : k < l.length) (hp : p ((l[k]'hlt).toNat : Nat) = false) : ext p l = k := by
  rcases Nat.lt_or_ge k (ext p l) with h | h
  · have := ext_all p l k h
    rw [hp] at this; cases this
  · omega

/-- the tokens' texts of the symbols, longer ones first -/
def symList : List (List UInt8) := twos ++ [[40], [41], [91], [93], [123], [125], [44], [59], [58], [46], [60], [62], [43], [45], [38], [124], [94], [126], [33], [42], [47], [61], [63], [64], [37]]
def symStr : List Value := symList.map fun l => .string ⟨l.toArray⟩
set_option maxRecDepth 100000 in
set_option maxHeartbeats 400000 in
theorem symbols_any (w : World) :
    Calls Try.prog 31 #[] w fun e w' => e = .returned (.slice (some ⟨w.heap.size, 0, none⟩) 34 34) ∧ w' = w.alloc (.cells symStr.toArray 9) := by
  go_enter Try.func31, Try.ntmps31
  go_wp2
  go_ret
  exact ⟨rfl, rfl⟩

def rtooGreat (l : List UInt8) : Bool :=
  if 2 < l.length ∧ l.take 2 = [48, 120] then decide (ext isHexd (l.drop 2) = l.length - 2)
  else decide (ext isDig l = l.length) && decide (l.head? ≠ some 48)
theorem ext_drop {p : Int → Bool} {l : List UInt8} {j k : Nat} (hj : j ≤ l.length) (hk : k ≤ l.length) (h : ∀ i, j ≤ i → ∀ hi : i < k, p ((l[i]'(by omega)).toNat : Nat) = true) (hjk : j ≤ k) : k - j ≤ ext p (l.drop j) := by
  rcases Nat.lt_or_ge (ext p (l.drop j)) (k - j) with h1 | h1
  · exfalso
    have h2 : ext p (l.drop j) < (l.drop j).length := by rw [List.length_drop]; omega
    have := ext_stop p (l.drop j) h2
    rw [List.getElem_drop] at this
    rw [h (j + ext p (l.drop j)) (by omega) (by omega)] at this
    cases this
  · exact h1

set_option maxHeartbeats 1000000 in
theorem tooGreat_hex (s : ByteArray) (w : World) (hs : s.size ≤ 1048576) (h2 : 2 < s.size) (hp : s.data.toList.take 2 = [48, 120]) :
    Calls Try.prog 32 #[.string s] w fun e w' => e = .returned (.bool (decide (ext isHexd (s.data.toList.drop 2) = s.size - 2))) ∧ w = w' := by
  have hp' : ((s.extract 0 2).toList == [48, 120]) = true := by rw [ext2]; simp [hp]
  clear hp
  have hle : ext isHexd (s.data.toList.drop 2) ≤ s.size - 2 := Nat.le_trans (ext_le _ _) (by rw [List.length_drop]; exact Nat.le_refl _)
  go_enter Try.func32, Try.ntmps32
  go_wp2
  go_loop [3] (fun i => ∃ k : Nat, 2 ≤ k ∧ k - 2 ≤ ext isHexd (s.data.toList.drop 2) ∧ i = .int .i64 k) (fun i => s.size - (intOf i).toNat)
  case atStart => exact ⟨2, Nat.le_refl _, by omega, rfl⟩
  case round =>
    obtain ⟨k, hk2, hk, rfl⟩ := hrel
    by_cases hlt : k < s.size
    · have hlt' : k - 2 < (s.data.toList.drop 2).length := by rw [List.length_drop]; show k - 2 < s.size - 2; omega
      have e : (s.data.toList.drop 2)[k - 2]'hlt' = s[k] := by rw [List.getElem_drop]; simp only [show 2 + (k - 2) = k from by omega]; rfl
      have HE := Lib.hid e
      clear e
      rcases hb : isHexd (s[k].toNat : Int) with _ | _
      · have HB := Lib.hid hb
        clear hb
        go_wp2_with fail
        refine (rhexd_any _ _).mono ?_
        rintro e w' ⟨rfl, rfl⟩
        have hb := HB.out
        go_wp2
        go_ret
        refine ⟨ret_bool ?_, rfl⟩
        have := ext_end hk hlt' (by rw [HE.out]; exact HB.out)
        show false = _
        rw [eq_comm, decide_eq_false_iff_not]; omega
      · have HB := Lib.hid hb
        clear hb
        go_wp2_with fail
        refine (rhexd_any _ _).mono ?_
        rintro e w' ⟨rfl, rfl⟩
        have hb := HB.out
        go_wp2
        go_round
        case rel =>
          have := ext_step hk hlt' (by rw [HE.out]; exact HB.out)
          exact ⟨k + 1, by omega, by omega, by go_num⟩
        case measure => simp [intOf]; omega
    · go_wp2
      go_ret
      refine ⟨ret_bool ?_, rfl⟩
      show true = _
      rw [eq_comm, decide_eq_true_iff]; omega

set_option maxHeartbeats 1000000 in
theorem tooGreat_dec (s : ByteArray) (w : World) (hs : s.size ≤ 1048576) (h0 : 0 < s.size) (hp : ¬ (2 < s.size ∧ s.data.toList.take 2 = [48, 120])) :
    Calls Try.prog 32 #[.string s] w fun e w' => e = .returned (.bool (decide (ext isDig s.data.toList = s.size) && decide (s.data.toList.head? ≠ some 48))) ∧ w = w' := by
  have hcase : ¬ 2 < s.size ∨ (2 < s.size ∧ ((s.extract 0 2).toList == [48, 120]) = false) := by
    by_cases h : 2 < s.size
    · refine .inr ⟨h, ?_⟩
      rw [beq_eq_false_iff_ne, ext2]
      exact fun e => hp ⟨h, e⟩
    · exact .inl h
  clear hp
  have HH := Lib.hid (head_ne s h0)
  have hle : ext isDig s.data.toList ≤ s.size := ext_le _ _
  rcases hcase with h2 | ⟨h2, hp'⟩
  all_goals
    go_enter Try.func32, Try.ntmps32
    go_wp2
    go_loop [4] (fun i => ∃ k : Nat, k ≤ ext isDig s.data.toList ∧ i = .int .i64 k) (fun i => s.size - (intOf i).toNat)
    case atStart => exact ⟨0, Nat.zero_le _, rfl⟩
    case round =>
      obtain ⟨k, hk, rfl⟩ := hrel
      by_cases hlt : k < s.size
      · rcases hb : isDig (s[k].toNat : Int) with _ | _
        · have HB := Lib.hid hb
          clear hb
          go_wp2_with fail
          refine (rdig5_any _ _).mono ?_
          rintro e w' ⟨rfl, rfl⟩
          have hb := HB.out
          go_wp2
          go_ret
          refine ⟨ret_bool ?_, rfl⟩
          have := ext_end hk hlt HB.out
          show false = _
          rw [eq_comm, Bool.and_eq_false_iff, decide_eq_false_iff_not]; left; omega
        · have HB := Lib.hid hb
          clear hb
          go_wp2_with fail
          refine (rdig5_any _ _).mono ?_
          rintro e w' ⟨rfl, rfl⟩
          have hb := HB.out
          go_wp2
          go_round
          case rel => exact ⟨k + 1, ext_step hk hlt HB.out, by go_num⟩
          case measure => simp [intOf]; omega
      · go_wp2
        go_ret
        refine ⟨ret_bool ?_, rfl⟩
        show ((s[0].toNat : Int) != 48) = _
        rw [HH.out, show decide (ext isDig s.data.toList = s.size) = true from by rw [decide_eq_true_iff]; omega, Bool.true_and]; simp

theorem tooGreat_any (s : ByteArray) (w : World) (hs : s.size ≤ 1048576) (h0 : 0 < s.size) :
    Calls Try.prog 32 #[.string s] w fun e w' => e = .returned (.bool (rtooGreat s.data.toList)) ∧ w = w' := by
  by_cases h : 2 < s.size ∧ s.data.toList.take 2 = [48, 120]
  · rw [rtooGreat, if_pos (show 2 < s.data.toList.length ∧ _ from h)]
    exact tooGreat_hex s w hs h.1 h.2
  · rw [rtooGreat, if_neg (show ¬ (2 < s.data.toList.length ∧ _) from h)]
    exact tooGreat_dec s w hs h0 h

end Go.Proofs.Ytnddfmbgbgiljaa
