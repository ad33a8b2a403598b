/- Walks of the lexer's symbol. No condition but the length of the text. -/
import Derived.Test.YtnddfmbgbgiljaaLexA
import Derived.Test.YtnddfmbgbgiljaaNumB
namespace Go.Proofs.Ytnddfmbgbgiljaa
open Go.RowKit

def twos : List (List UInt8) := [[60, 61], [60, 60], [62, 62], [61, 61], [38, 38], [124, 124], [43, 43], [45, 62], [58, 61]]
def ones : List UInt8 := [40, 41, 91, 93, 123, 125, 44, 59, 58, 46, 60, 62, 43, 45, 38, 124, 94, 126, 33, 42, 47, 61, 63, 64, 37]
/-- the length of the longest symbol at the head of a list -/
def sym (l : List UInt8) : Nat :=
  if l.take 2 ∈ twos then 2 else match l with
    | [] => 0
    | c :: _ => if c ∈ ones then 1 else 0
theorem sym_cons (c : UInt8) (l : List UInt8) (h : (c :: l).take 2 ∉ twos) : sym (c :: l) = if c ∈ ones then 1 else 0 := by rw [sym, if_neg h]
theorem list_one (s : ByteArray) (h0 : 0 < s.size) : s.data.toList = s[0] :: s.data.toList.drop 1 := by
  have := List.drop_eq_getElem_cons (l := s.data.toList) (i := 0) h0
  rw [List.drop_zero] at this
  exact this
theorem ext2 (s : ByteArray) : (s.extract 0 2).toList = s.data.toList.take 2 := by
  rw [toList_data, ByteArray.data_extract]; simp
theorem byte_ne {c k : UInt8} (h : c ≠ k) : ((c.toNat : Int) == (k.toNat : Int)) = false := by
  rw [beq_eq_false_iff_ne]
  intro e
  exact h (UInt8.toNat_inj.1 (by omega))

set_option maxHeartbeats 4000000 in
theorem symbol_two (s : ByteArray) (w : World) (hs : s.size ≤ 1048576) (h2 : 2 ≤ s.size) (h : (s.extract 0 2).toList ∈ twos) :
    Calls Try.prog 29 #[.string s] w fun e w' => e = .returned (.int .i64 2) ∧ w = w' := by
  simp only [twos, List.mem_cons, List.not_mem_nil, or_false] at h
  rcases h with h | h | h | h | h | h | h | h | h
  all_goals
    go_enter Try.func29, Try.ntmps29
    go_wp2
    go_ret
    exact ⟨rfl, rfl⟩

set_option maxHeartbeats 4000000 in
theorem symbol_one (s : ByteArray) (w : World) (hs : s.size ≤ 1048576) (h2 : 2 ≤ s.size) (h : (s.extract 0 2).toList ∉ twos) (h1 : s[0]'(by omega) ∈ ones) :
    Calls Try.prog 29 #[.string s] w fun e w' => e = .returned (.int .i64 1) ∧ w = w' := by
  have h0 : 0 < s.size := by omega
  simp only [twos, List.mem_cons, List.not_mem_nil, or_false, not_or] at h
  obtain ⟨a0, a1, a2, a3, a4, a5, a6, a7, a8⟩ := h
  replace a0 := beq_eq_false_iff_ne.2 a0
  replace a1 := beq_eq_false_iff_ne.2 a1
  replace a2 := beq_eq_false_iff_ne.2 a2
  replace a3 := beq_eq_false_iff_ne.2 a3
  replace a4 := beq_eq_false_iff_ne.2 a4
  replace a5 := beq_eq_false_iff_ne.2 a5
  replace a6 := beq_eq_false_iff_ne.2 a6
  replace a7 := beq_eq_false_iff_ne.2 a7
  replace a8 := beq_eq_false_iff_ne.2 a8
  simp only [ones, List.mem_cons, List.not_mem_nil, or_false] at h1
  rcases h1 with h | h | h | h | h | h | h | h | h | h | h | h | h | h | h | h | h | h | h | h | h | h | h | h | h
  all_goals
    replace h := congrArg UInt8.toNat h
    go_enter Try.func29, Try.ntmps29
    go_wp2
    go_ret
    exact ⟨rfl, rfl⟩

set_option maxHeartbeats 4000000 in
theorem symbol_no (s : ByteArray) (w : World) (hs : s.size ≤ 1048576) (h2 : 2 ≤ s.size) (h : (s.extract 0 2).toList ∉ twos) (h1 : s[0]'(by omega) ∉ ones) :
    Calls Try.prog 29 #[.string s] w fun e w' => e = .returned (.int .i64 0) ∧ w = w' := by
  have h0 : 0 < s.size := by omega
  simp only [twos, List.mem_cons, List.not_mem_nil, or_false, not_or] at h
  obtain ⟨a0, a1, a2, a3, a4, a5, a6, a7, a8⟩ := h
  replace a0 := beq_eq_false_iff_ne.2 a0
  replace a1 := beq_eq_false_iff_ne.2 a1
  replace a2 := beq_eq_false_iff_ne.2 a2
  replace a3 := beq_eq_false_iff_ne.2 a3
  replace a4 := beq_eq_false_iff_ne.2 a4
  replace a5 := beq_eq_false_iff_ne.2 a5
  replace a6 := beq_eq_false_iff_ne.2 a6
  replace a7 := beq_eq_false_iff_ne.2 a7
  replace a8 := beq_eq_false_iff_ne.2 a8
  simp only [ones, List.mem_cons, List.not_mem_nil, or_false, not_or] at h1
  obtain ⟨b0, b1, b2, b3, b4, b5, b6, b7, b8, b9, b10, b11, b12, b13, b14, b15, b16, b17, b18, b19, b20, b21, b22, b23, b24⟩ := h1
  replace b0 : ((s[0].toNat : Int) == 40) = false := byte_ne b0
  replace b1 : ((s[0].toNat : Int) == 41) = false := byte_ne b1
  replace b2 : ((s[0].toNat : Int) == 91) = false := byte_ne b2
  replace b3 : ((s[0].toNat : Int) == 93) = false := byte_ne b3
  replace b4 : ((s[0].toNat : Int) == 123) = false := byte_ne b4
  replace b5 : ((s[0].toNat : Int) == 125) = false := byte_ne b5
  replace b6 : ((s[0].toNat : Int) == 44) = false := byte_ne b6
  replace b7 : ((s[0].toNat : Int) == 59) = false := byte_ne b7
  replace b8 : ((s[0].toNat : Int) == 58) = false := byte_ne b8
  replace b9 : ((s[0].toNat : Int) == 46) = false := byte_ne b9
  replace b10 : ((s[0].toNat : Int) == 60) = false := byte_ne b10
  replace b11 : ((s[0].toNat : Int) == 62) = false := byte_ne b11
  replace b12 : ((s[0].toNat : Int) == 43) = false := byte_ne b12
  replace b13 : ((s[0].toNat : Int) == 45) = false := byte_ne b13
  replace b14 : ((s[0].toNat : Int) == 38) = false := byte_ne b14
  replace b15 : ((s[0].toNat : Int) == 124) = false := byte_ne b15
  replace b16 : ((s[0].toNat : Int) == 94) = false := byte_ne b16
  replace b17 : ((s[0].toNat : Int) == 126) = false := byte_ne b17
  replace b18 : ((s[0].toNat : Int) == 33) = false := byte_ne b18
  replace b19 : ((s[0].toNat : Int) == 42) = false := byte_ne b19
  replace b20 : ((s[0].toNat : Int) == 47) = false := byte_ne b20
  replace b21 : ((s[0].toNat : Int) == 61) = false := byte_ne b21
  replace b22 : ((s[0].toNat : Int) == 63) = false := byte_ne b22
  replace b23 : ((s[0].toNat : Int) == 64) = false := byte_ne b23
  replace b24 : ((s[0].toNat : Int) == 37) = false := byte_ne b24
  go_enter Try.func29, Try.ntmps29
  go_wp2
  go_ret
  exact ⟨rfl, rfl⟩

set_option maxHeartbeats 4000000 in
theorem symbol_one' (s : ByteArray) (w : World) (hs : s.size ≤ 1048576) (h0 : 0 < s.size) (h2 : s.size < 2) (h1 : s[0]'(by omega) ∈ ones) :
    Calls Try.prog 29 #[.string s] w fun e w' => e = .returned (.int .i64 1) ∧ w = w' := by
  simp only [ones, List.mem_cons, List.not_mem_nil, or_false] at h1
  rcases h1 with h | h | h | h | h | h | h | h | h | h | h | h | h | h | h | h | h | h | h | h | h | h | h | h | h
  all_goals
    replace h := congrArg UInt8.toNat h
    go_enter Try.func29, Try.ntmps29
    go_wp2
    go_ret
    exact ⟨rfl, rfl⟩

set_option maxHeartbeats 4000000 in
theorem symbol_no' (s : ByteArray) (w : World) (hs : s.size ≤ 1048576) (h0 : 0 < s.size) (h2 : s.size < 2) (h1 : s[0]'(by omega) ∉ ones) :
    Calls Try.prog 29 #[.string s] w fun e w' => e = .returned (.int .i64 0) ∧ w = w' := by
  simp only [ones, List.mem_cons, List.not_mem_nil, or_false, not_or] at h1
  obtain ⟨b0, b1, b2, b3, b4, b5, b6, b7, b8, b9, b10, b11, b12, b13, b14, b15, b16, b17, b18, b19, b20, b21, b22, b23, b24⟩ := h1
  replace b0 : ((s[0].toNat : Int) == 40) = false := byte_ne b0
  replace b1 : ((s[0].toNat : Int) == 41) = false := byte_ne b1
  replace b2 : ((s[0].toNat : Int) == 91) = false := byte_ne b2
  replace b3 : ((s[0].toNat : Int) == 93) = false := byte_ne b3
  replace b4 : ((s[0].toNat : Int) == 123) = false := byte_ne b4
  replace b5 : ((s[0].toNat : Int) == 125) = false := byte_ne b5
  replace b6 : ((s[0].toNat : Int) == 44) = false := byte_ne b6
  replace b7 : ((s[0].toNat : Int) == 59) = false := byte_ne b7
  replace b8 : ((s[0].toNat : Int) == 58) = false := byte_ne b8
  replace b9 : ((s[0].toNat : Int) == 46) = false := byte_ne b9
  replace b10 : ((s[0].toNat : Int) == 60) = false := byte_ne b10
  replace b11 : ((s[0].toNat : Int) == 62) = false := byte_ne b11
  replace b12 : ((s[0].toNat : Int) == 43) = false := byte_ne b12
  replace b13 : ((s[0].toNat : Int) == 45) = false := byte_ne b13
  replace b14 : ((s[0].toNat : Int) == 38) = false := byte_ne b14
  replace b15 : ((s[0].toNat : Int) == 124) = false := byte_ne b15
  replace b16 : ((s[0].toNat : Int) == 94) = false := byte_ne b16
  replace b17 : ((s[0].toNat : Int) == 126) = false := byte_ne b17
  replace b18 : ((s[0].toNat : Int) == 33) = false := byte_ne b18
  replace b19 : ((s[0].toNat : Int) == 42) = false := byte_ne b19
  replace b20 : ((s[0].toNat : Int) == 47) = false := byte_ne b20
  replace b21 : ((s[0].toNat : Int) == 61) = false := byte_ne b21
  replace b22 : ((s[0].toNat : Int) == 63) = false := byte_ne b22
  replace b23 : ((s[0].toNat : Int) == 64) = false := byte_ne b23
  replace b24 : ((s[0].toNat : Int) == 37) = false := byte_ne b24
  go_enter Try.func29, Try.ntmps29
  go_wp2
  go_ret
  exact ⟨rfl, rfl⟩


theorem symbol_any (s : ByteArray) (w : World) (hs : s.size ≤ 1048576) (h0 : 0 < s.size) :
    Calls Try.prog 29 #[.string s] w fun e w' => e = .returned (.int .i64 (sym s.data.toList)) ∧ w = w' := by
  by_cases h2 : 2 ≤ s.size
  · by_cases h : (s.extract 0 2).toList ∈ twos
    · have e : sym s.data.toList = 2 := by unfold sym; rw [if_pos (by rw [← ext2]; exact h)]
      rw [e]
      exact symbol_two s w hs h2 h
    · have e : sym s.data.toList = if s[0] ∈ ones then 1 else 0 := by
        rw [list_one s h0, sym_cons]; rw [← list_one s h0, ← ext2]; exact h
      rw [e]
      by_cases h1 : s[0] ∈ ones
      · rw [if_pos h1]; exact symbol_one s w hs h2 h h1
      · rw [if_neg h1]; exact symbol_no s w hs h2 h h1
  · have h2' : s.size = 1 := by omega
    have e : sym s.data.toList = if s[0] ∈ ones then 1 else 0 := by
      obtain ⟨a, ha⟩ := List.length_eq_one_iff.1 (show s.data.toList.length = 1 from h2')
      rw [list_one s h0, sym_cons]; rw [← list_one s h0, ha]; simp [twos]
    rw [e]
    by_cases h1 : s[0] ∈ ones
    · rw [if_pos h1]; exact symbol_one' s w hs h0 (by omega) h1
    · rw [if_neg h1]; exact symbol_no' s w hs h0 (by omega) h1

end Go.Proofs.Ytnddfmbgbgiljaa
