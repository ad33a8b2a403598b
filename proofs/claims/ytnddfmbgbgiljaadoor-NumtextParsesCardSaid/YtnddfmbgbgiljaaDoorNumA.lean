/- Walks of numtext's cursor: done, digit, accept; of canonical. No condition but the length of the text. -/
import Derived.Test.YtnddfmbgbgiljaaDoorShelf
import Derived.Test.YtnddfmbgbgiljaaDoorKit
import Derived.Lib.IndexBytes
namespace Go.Proofs.YtnddfmbgbgiljaaDoor
open Go.RowKit

def hexs : List UInt8 := [48, 49, 50, 51, 52, 53, 54, 55, 56, 57, 97, 98, 99, 100, 101, 102]
/-- the value of a byte as a digit -/
def dgt (base : Nat) (c : UInt8) : Option Nat :=
  if 48 ≤ c ∧ c ≤ 57 then some (c.toNat - 48) else if base = 16 ∧ 97 ≤ c ∧ c ≤ 102 then some (c.toNat - 87) else none
theorem dgt_ten (c : UInt8) : Lib.indexByte (hexs.take 10) c = (match dgt 10 c with | some d => (d : Int) | none => -1) := by
  have h : ∀ x : Fin 256, Lib.indexByte (hexs.take 10) (UInt8.ofNat x) = (match dgt 10 (UInt8.ofNat x) with | some d => (d : Int) | none => -1) := by decide +kernel
  have := h ⟨c.toNat, c.toNat_lt⟩
  simpa using this
theorem dgt_hex (c : UInt8) : Lib.indexByte (hexs.take 16) c = (match dgt 16 c with | some d => (d : Int) | none => -1) := by
  have h : ∀ x : Fin 256, Lib.indexByte (hexs.take 16) (UInt8.ofNat x) = (match dgt 16 (UInt8.ofNat x) with | some d => (d : Int) | none => -1) := by decide +kernel
  have := h ⟨c.toNat, c.toNat_lt⟩
  simpa using this

set_option maxHeartbeats 400000 in
theorem done_any (b at_ : Nat) (s : ByteArray) (w : World) (h0 : w.cell? ⟨b, 0, none⟩ = some (.string s)) (h1 : w.cell? ⟨b, 1, none⟩ = some (.int .i64 at_)) :
    Calls Tryd.prog 30 #[.pointer (some ⟨b, 0, none⟩)] w fun e w' => e = .returned (.bool ((at_ : Int) == (s.size : Int))) ∧ ∃ n, w' = w.drewN n := by
  go_enter Tryd.func30, Tryd.ntmps30
  go_wp2
  go_quiet (fail)
  go_wp2
  go_ret
  exact ⟨rfl, _, rfl⟩

set_option maxHeartbeats 400000 in
theorem accept_any (b : Nat) (s p : ByteArray) (w : World) (x : Bool) (h0 : w.cell? ⟨b, 0, none⟩ = some (.string s)) (h1 : w.cell? ⟨b, 1, none⟩ = some (.int .i64 0))
    (hf : w.frozen? ⟨b, 1, none⟩ = false) (hm : p.size ≤ 1048576) (hp : Lib.hasPrefix s.data.toList p.data.toList = x) :
    Calls Tryd.prog 25 #[.pointer (some ⟨b, 0, none⟩), .string p] w
      fun e w' => e = .returned (.bool x) ∧ ∃ n, w' = (if x then w.setCell ⟨b, 1, none⟩ (.int .i64 p.size) else w).drewN n := by
  have he : s.extract 0 s.size = s := by simp
  cases x
  all_goals
    go_enter Tryd.func25, Tryd.ntmps25
    go_wp2
    go_quiet ((go_at_call 36; exact Calls.quiet_of_same (Tryd.strings_HasPrefix _ _ _)))
    go_wp2
    go_ret
    exact ⟨rfl, _, rfl⟩

theorem idx_eq {base : Nat} {c : UInt8} {d : Int} (h : Lib.indexByte (hexs.take base) c = d) :
    Lib.indexByte ((⟨#[48, 49, 50, 51, 52, 53, 54, 55, 56, 57, 97, 98, 99, 100, 101, 102]⟩ : ByteArray).extract 0 base).data.toList ((c.toNat : Int).toNat.toUInt8) = d := by
  rw [← h]; simp [hexs, ByteArray.data_extract]

set_option maxHeartbeats 400000 in
theorem digit_some (base d b at_ : Nat) (s : ByteArray) (w : World) (h0 : w.cell? ⟨b, 0, none⟩ = some (.string s)) (h1 : w.cell? ⟨b, 1, none⟩ = some (.int .i64 at_))
    (hf : w.frozen? ⟨b, 1, none⟩ = false) (hs : at_ < s.size) (hm : s.size ≤ 1048576) (hb : base = 10 ∨ base = 16) (hd : dgt base s[at_] = some d) :
    Calls Tryd.prog 31 #[.pointer (some ⟨b, 0, none⟩), .int .i64 base] w
      fun e w' => e = .returned (.tuple #[.int .i64 d, .bool true]) ∧ ∃ n, w' = (w.setCell ⟨b, 1, none⟩ (.int .i64 ((at_ + 1 : Nat) : Int))).drewN n := by
  have hx : Lib.indexByte (hexs.take base) s[at_] = (d : Int) := by
    rcases hb with rfl | rfl
    · rw [dgt_ten, hd]
    · rw [dgt_hex, hd]
  have HX := Lib.hid hx
  have HD := Lib.hid hd
  clear hx hd
  have hb1 : base ≤ 16 := by omega
  clear hb
  have ht : ((at_ : Int) == (s.size : Int)) = false := beq_eq_false_iff_ne.2 (by omega)
  go_enter Tryd.func31, Tryd.ntmps31
  go_wp2_with (go_at_call 30; refine (done_any _ _ _ _ h0 h1).mono ?_; rintro e w' ⟨rfl, n1, rfl⟩)
  go_quiet ((go_at_call 37; exact quiet_add_same (Tryd.strings_IndexByte _ _ _)))
  go_wp2
  · have h : Lib.indexByte (List.take base [48, 49, 50, 51, 52, 53, 54, 55, 56, 57, 97, 98, 99, 100, 101, 102]) s[at_] < 0 := by assumption
    rw [show Lib.indexByte (List.take base [48, 49, 50, 51, 52, 53, 54, 55, 56, 57, 97, 98, 99, 100, 101, 102]) s[at_] = (d : Int) from HX.out] at h
    omega
  · go_ret2
    refine ⟨?_, _, rfl⟩
    simp only [Ending.returned.injEq, Value.tuple.injEq]
    show #[Value.int .i64 _, Value.bool true] = _
    rw [idx_eq HX.out]

set_option maxHeartbeats 400000 in
theorem digit_none (base b at_ : Nat) (s : ByteArray) (w : World) (h0 : w.cell? ⟨b, 0, none⟩ = some (.string s)) (h1 : w.cell? ⟨b, 1, none⟩ = some (.int .i64 at_))
    (hs : at_ < s.size) (_hm : s.size ≤ 1048576) (hb : base = 10 ∨ base = 16) (hd : dgt base s[at_] = none) :
    Calls Tryd.prog 31 #[.pointer (some ⟨b, 0, none⟩), .int .i64 base] w
      fun e w' => e = .returned (.tuple #[.int .i64 0, .bool false]) ∧ ∃ n, w' = w.drewN n := by
  have hx : Lib.indexByte (hexs.take base) s[at_] = -1 := by
    rcases hb with rfl | rfl
    · rw [dgt_ten, hd]
    · rw [dgt_hex, hd]
  have HX := Lib.hid hx
  have HD := Lib.hid hd
  clear hx hd
  have hb1 : base ≤ 16 := by omega
  clear hb
  have ht : ((at_ : Int) == (s.size : Int)) = false := beq_eq_false_iff_ne.2 (by omega)
  go_enter Tryd.func31, Tryd.ntmps31
  go_wp2_with (go_at_call 30; refine (done_any _ _ _ _ h0 h1).mono ?_; rintro e w' ⟨rfl, n1, rfl⟩)
  go_quiet ((go_at_call 37; exact quiet_add_same (Tryd.strings_IndexByte _ _ _)))
  have hlt : Lib.indexByte (List.take base [48, 49, 50, 51, 52, 53, 54, 55, 56, 57, 97, 98, 99, 100, 101, 102]) s[at_] < 0 := by
    rw [show Lib.indexByte (List.take base [48, 49, 50, 51, 52, 53, 54, 55, 56, 57, 97, 98, 99, 100, 101, 102]) s[at_] = -1 from HX.out]; decide
  go_wp2
  go_ret2
  exact ⟨rfl, _, rfl⟩

set_option maxHeartbeats 400000 in
theorem digit_end (base b : Nat) (s : ByteArray) (w : World) (h0 : w.cell? ⟨b, 0, none⟩ = some (.string s)) (h1 : w.cell? ⟨b, 1, none⟩ = some (.int .i64 s.size)) :
    Calls Tryd.prog 31 #[.pointer (some ⟨b, 0, none⟩), .int .i64 base] w
      fun e w' => e = .returned (.tuple #[.int .i64 0, .bool false]) ∧ ∃ n, w' = w.drewN n := by
  go_enter Tryd.func31, Tryd.ntmps31
  go_wp2_with (go_at_call 30; refine (done_any _ _ _ _ h0 h1).mono ?_; rintro e w' ⟨rfl, n1, rfl⟩)
  go_ret2
  exact ⟨rfl, _, rfl⟩

/-- no leading zero, but for 0 itself -/
def canon : List UInt8 → Bool
  | [] => false
  | [_] => true
  | c :: _ => c != 48
theorem list_two {l : List UInt8} (h : 2 ≤ l.length) : ∃ a b r, l = a :: b :: r := by
  match l, h with
  | a :: b :: r, _ => exact ⟨a, b, r, rfl⟩
set_option maxHeartbeats 400000 in
theorem canonical_any (s : ByteArray) (w : World) (hs : s.size ≤ maxLen) :
    Calls Tryd.prog 26 #[.string s] w fun e w' => e = .returned (.bool (canon s.data.toList)) ∧ w = w' := by
  unfold maxLen at hs
  rcases Nat.lt_trichotomy s.size 1 with h | h | h
  · have he : s.toList = [] := by rw [toList_data]; exact List.eq_nil_of_length_eq_zero (show s.size = 0 by omega)
    have h1 : ((s.size : Int) == 1) = false := beq_eq_false_iff_ne.2 (by omega)
    go_enter Tryd.func26, Tryd.ntmps26
    go_wp2
    go_ret
    exact ⟨ret_bool (by rw [← toList_data, he]; rfl), rfl⟩
  · have h1 : ((s.size : Int) == 1) = true := beq_iff_eq.2 (by omega)
    go_enter Tryd.func26, Tryd.ntmps26
    go_wp2
    go_ret
    refine ⟨ret_bool ?_, rfl⟩
    have hl : s.data.toList.length = 1 := h
    obtain ⟨a, ha⟩ := List.length_eq_one_iff.1 hl
    rw [ha]; rfl
  · have he : s.toList.isEmpty = false := by
      rw [toList_data, List.isEmpty_eq_false_iff]
      intro e
      have : s.data.toList.length = s.size := rfl
      rw [e] at this; simp at this; omega
    have h1 : ((s.size : Int) == 1) = false := beq_eq_false_iff_ne.2 (by omega)
    have h2 : 0 < s.size := by omega
    go_enter Tryd.func26, Tryd.ntmps26
    go_wp2
    go_ret
    refine ⟨ret_bool ?_, rfl⟩
    obtain ⟨a, c, r, hl⟩ := list_two (l := s.data.toList) h
    have e0 : s[0] = a := by
      have : s.data.toList[0]? = some a := by rw [hl]; rfl
      rw [Lib.data_getElem? s 0 h2] at this
      exact Option.some.inj this
    rw [e0, hl]
    show ((a.toNat : Int) != 48) = (a != 48)
    rw [Bool.eq_iff_iff, bne_iff_ne, bne_iff_ne]
    have e : a = 48 ↔ a.toNat = 48 := by rw [← UInt8.toNat_inj]; rfl
    rw [Ne, Ne, e]
    omega

end Go.Proofs.YtnddfmbgbgiljaaDoor
