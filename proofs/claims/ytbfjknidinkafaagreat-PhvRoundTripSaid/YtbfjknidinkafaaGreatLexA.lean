/- Walks of the small functions of the lexer: letters, digits, the extent of a run of bytes. No condition but the length of the text. -/
import Derived.Test.YtbfjknidinkafaaGreatKit
namespace Go.Proofs.YtbfjknidinkafaaGreat
open Go.RowKit

def isLet (c : Int) : Bool := (decide (97 ≤ c) && decide (c ≤ 122)) || (decide (65 ≤ c) && decide (c ≤ 90))
def isDig (c : Int) : Bool := decide (48 ≤ c) && decide (c ≤ 57)
def isWord (c : Int) : Bool := isLet c || isDig c || c == 95
def isAlnum (c : Int) : Bool := isLet c || isDig c
def isHexd (c : Int) : Bool := isDig c || (decide (97 ≤ c) && decide (c ≤ 102))

set_option maxHeartbeats 400000 in
theorem isLetter_any (c : Int) (w : World) :
    Calls Tryz.prog 192 #[.int .u8 c] w fun e w' => e = .returned (.bool (isLet c)) ∧ w = w' := by
  go_enter Tryz.func192, Tryz.ntmps192
  go_wp2
  all_goals (go_ret; exact ⟨ret_bool (by rw [Bool.eq_iff_iff]; simp [isLet]; omega), rfl⟩)

set_option maxHeartbeats 400000 in
theorem isDigit_any (c : Int) (w : World) :
    Calls Tryz.prog 195 #[.int .u8 c] w fun e w' => e = .returned (.bool (isDig c)) ∧ w = w' := by
  go_enter Tryz.func195, Tryz.ntmps195
  go_wp2
  all_goals (go_ret; exact ⟨ret_bool (by rw [Bool.eq_iff_iff]; simp [isDig]; omega), rfl⟩)

set_option maxHeartbeats 400000 in
theorem rletter_any (c : Int) (w : World) :
    Calls Tryz.prog 141 #[.int .u8 c] w fun e w' => e = .returned (.bool (isLet c)) ∧ w = w' := by
  go_enter Tryz.func141, Tryz.ntmps141
  go_wp2
  all_goals (go_ret; exact ⟨ret_bool (by rw [Bool.eq_iff_iff]; simp [isLet]; omega), rfl⟩)

set_option maxHeartbeats 400000 in
theorem word1_any (c : Int) (w : World) :
    Calls Tryz.prog 194 #[.int .u8 c] w fun e w' => e = .returned (.bool (isWord c)) ∧ w = w' := by
  go_enter Tryz.func194, Tryz.ntmps194
  go_wp2_with (first
    | (go_at_call 192; refine (isLetter_any _ _).mono ?_; rintro e w' ⟨rfl, rfl⟩)
    | (go_at_call 195; refine (isDigit_any _ _).mono ?_; rintro e w' ⟨rfl, rfl⟩))
  all_goals (go_ret; exact ⟨ret_bool (by rw [Bool.eq_iff_iff]; simp [isWord, *]), rfl⟩)

/-- how many bytes at the head of a list satisfy p -/
def ext (p : Int → Bool) : List UInt8 → Nat
  | [] => 0
  | c :: l => if p c.toNat then ext p l + 1 else 0
theorem ext_le (p : Int → Bool) : ∀ l, ext p l ≤ l.length
  | [] => Nat.le_refl _
  | c :: l => by unfold ext; split <;> simp; exact ext_le p l
theorem ext_all (p : Int → Bool) : ∀ l (i : Nat) (h : i < ext p l), p ((l[i]'(Nat.lt_of_lt_of_le h (ext_le p l))).toNat : Nat) = true
  | [], i, h => absurd h (Nat.not_lt_zero _)
  | c :: l, i, h => by
    unfold ext at h
    split at h
    · rename_i hc
      cases i with
      | zero => simpa using hc
      | succ i => simpa using ext_all p l i (by omega)
    · omega
theorem ext_stop (p : Int → Bool) : ∀ l (h : ext p l < l.length), p ((l[ext p l]'h).toNat : Nat) = false
  | [], h => absurd h (Nat.not_lt_zero _)
  | c :: l, h => by
    by_cases hc : p c.toNat = true
    · have e : ext p (c :: l) = ext p l + 1 := by rw [ext, if_pos hc]
      have h' : ext p l < l.length := by rw [e] at h; simpa using h
      have := ext_stop p l h'
      simp only [e]
      simpa using this
    · have e : ext p (c :: l) = 0 := by rw [ext, if_neg hc]
      simp only [e]
      simpa using hc
theorem ext_of (p : Int → Bool) (l : List UInt8) (k : Nat) (hk : k ≤ l.length) (h1 : ∀ i (h : i < k), p ((l[i]'(Nat.lt_of_lt_of_le h hk)).toNat : Nat) = true)
    (h2 : ∀ h : k < l.length, p ((l[k]'h).toNat : Nat) = false) : ext p l = k := by
  rcases Nat.lt_trichotomy (ext p l) k with h | h | h
  · have a := ext_stop p l (by omega)
    rw [h1 _ h] at a; cases a
  · exact h
  · have a := ext_all p l k h
    rw [h2 (by have := ext_le p l; omega)] at a; cases a

set_option maxHeartbeats 400000 in
theorem extent_any (F : FuncId) (p : Int → Bool) (s : ByteArray) (w : World) (hs : s.size ≤ maxLen)
    (hcf : ∀ (c : Int) (W : World), (callFunc F #[.int .u8 c]).run Tryz.prog W = .ok (.enter F #[.int .u8 c]) W)
    (hF : Hid (∀ (c : Int) (W : World), Calls Tryz.prog F #[.int .u8 c] W fun e w' => e = .returned (.bool (p c)) ∧ W = w')) :
    Calls Tryz.prog 193 #[.string s, .func (.func F) #[] #[]] w fun e w' => e = .returned (.int .i64 (ext p s.data.toList)) ∧ w = w' := by
  unfold maxLen at hs
  go_enter Tryz.func193, Tryz.ntmps193
  go_wp2
  go_loop [5] (fun i => ∃ k : Nat, k ≤ ext p s.data.toList ∧ i = .int .i64 k) (fun i => s.size - (intOf i).toNat)
  case atStart => exact ⟨0, Nat.zero_le _, rfl⟩
  case round =>
    obtain ⟨k, hk, rfl⟩ := hrel
    have hle : ext p s.data.toList ≤ s.size := ext_le p s.data.toList
    by_cases hlt : k < s.size
    · have H1 := Lib.hid (ext_stop p s.data.toList)
      have H2 := Lib.hid (ext_all p s.data.toList)
      by_cases hb : p ((s[k]).toNat : Nat) = true
      all_goals
        have HB := Lib.hid hb
        clear hb
        go_wp2_with fail
        refine (hF.out _ _).mono ?_
        rintro e w' ⟨rfl, rfl⟩
        have hb := HB.out
        go_wp2
      · go_round
        case rel =>
          refine ⟨k + 1, ?_, by go_num⟩
          rcases Nat.lt_or_ge k (ext p s.data.toList) with h | h
          · exact h
          · exfalso
            have e : ext p s.data.toList = k := by omega
            have := H1.out (by rw [e]; exact hlt)
            simp only [e] at this
            have hb' := HB.out
            rw [show (s[k] : UInt8) = s.data.toList[k]'hlt from rfl] at hb'
            rw [this] at hb'
            cases hb'
        case measure => simp [intOf]; omega
      · go_ret
        refine ⟨ret_int ?_, rfl⟩
        rcases Nat.lt_or_ge k (ext p s.data.toList) with h | h
        · exact absurd (H2.out k h) HB.out
        · omega
    · go_wp2
      go_ret
      exact ⟨ret_int (by omega), rfl⟩

end Go.Proofs.YtbfjknidinkafaaGreat

