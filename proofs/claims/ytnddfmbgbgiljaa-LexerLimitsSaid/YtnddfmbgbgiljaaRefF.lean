/- The walk of the reference lexer's check. No condition but the length of the text. -/
import Derived.Test.YtnddfmbgbgiljaaRefE
namespace Go.Proofs.Ytnddfmbgbgiljaa
open Go.RowKit

def checkM (t : Tk) : Nat :=
  if t.kind = 1 then (if 16 < t.text.length then 4 else 0)
  else if t.kind = 2 then (match pu32 t.text with
    | some _ => 0
    | none => if rtooGreat t.text = true then 9 else 5)
  else if t.kind = 3 then 0 else 5

set_option maxHeartbeats 1000000 in
theorem check_1 (x : ByteArray) (v n : Int) (w : World) (hx : x.size ≤ 1048576) :
    Calls Try.prog 19 #[.agg #[.int .i64 1, .string x, .int .u32 v, .int .i64 n]] w fun e w' => e = .returned (.int .i64 (if 16 < x.size then 4 else 0)) ∧ Below w.heap.size w w' := by
  by_cases h : 16 < x.size
  · rw [if_pos h]
    go_enter Try.func19, Try.ntmps19
    go_wp2
    go_ret
    exact ⟨rfl, (Below.refl _ _).alloc (Nat.le_refl _) _⟩
  · rw [if_neg h]
    go_enter Try.func19, Try.ntmps19
    go_wp2
    go_ret
    exact ⟨rfl, (Below.refl _ _).alloc (Nat.le_refl _) _⟩
set_option maxHeartbeats 1000000 in
theorem check_3 (x : ByteArray) (v n : Int) (w : World) :
    Calls Try.prog 19 #[.agg #[.int .i64 3, .string x, .int .u32 v, .int .i64 n]] w fun e w' => e = .returned (.int .i64 0) ∧ Below w.heap.size w w' := by
  go_enter Try.func19, Try.ntmps19
  go_wp2
  go_ret
  exact ⟨rfl, (Below.refl _ _).alloc (Nat.le_refl _) _⟩
set_option maxHeartbeats 1000000 in
theorem check_0 (x : ByteArray) (v n : Int) (w : World) :
    Calls Try.prog 19 #[.agg #[.int .i64 0, .string x, .int .u32 v, .int .i64 n]] w fun e w' => e = .returned (.int .i64 5) ∧ Below w.heap.size w w' := by
  go_enter Try.func19, Try.ntmps19
  go_wp2
  go_ret
  exact ⟨rfl, (Below.refl _ _).alloc (Nat.le_refl _) _⟩
def numCheck (l : List UInt8) : Nat := match pu32 l with
  | some _ => 0
  | none => if rtooGreat l = true then 9 else 5
set_option maxHeartbeats 1000000 in
theorem check_2 (x : ByteArray) (v n : Int) (w : World) (hx : x.size ≤ 1048576) (h0 : 0 < x.size) :
    Calls Try.prog 19 #[.agg #[.int .i64 2, .string x, .int .u32 v, .int .i64 n]] w fun e w' => e = .returned (.int .i64 (numCheck x.data.toList)) ∧ Below w.heap.size w w' := by
  have hbel : Below w.heap.size w (w.alloc (.cells #[.int .i64 2, .string x, .int .u32 v, .int .i64 n] 43)) := (Below.refl _ _).alloc (Nat.le_refl _) _
  have HB := Lib.hid hbel
  clear hbel
  have HX := Lib.hid hx
  rcases hv : pu32 x.data.toList with _ | u
  · rcases ht : rtooGreat x.data.toList with _ | _
    all_goals
      have HV := Lib.hid hv
      have HT := Lib.hid ht
      clear hv ht
      go_enter Try.func19, Try.ntmps19
      go_wp2_with fail
      refine (rparseUint32_any x _ HX.out).mono ?_
      rintro e w1 ⟨rfl, hb⟩
      rw [rpu32_eq, HV.out, u32v]
      have hz : w.heap.size + 1 ≤ w1.heap.size := by have := hb.size; simpa using this
      have hc : ∀ i, w1.cell? ⟨w.heap.size, i, none⟩ = (w.alloc (.cells #[.int .i64 2, .string x, .int .u32 v, .int .i64 n] 43)).cell? ⟨w.heap.size, i, none⟩ := fun i => hb.cell (by simp)
      go_wp2_with fail
      refine (tooGreat_any x _ HX.out h0).mono ?_
      rintro e w' ⟨rfl, rfl⟩
      have ht := HT.out
      go_wp2
      go_ret
      refine ⟨?_, HB.out.trans (hb.mono (by simp))⟩
      rw [numCheck, HV.out, HT.out]
      rfl
  · have HV := Lib.hid hv
    clear hv
    go_enter Try.func19, Try.ntmps19
    go_wp2_with fail
    refine (rparseUint32_any x _ HX.out).mono ?_
    rintro e w1 ⟨rfl, hb⟩
    rw [rpu32_eq, HV.out, u32v]
    go_wp2
    go_ret
    refine ⟨?_, HB.out.trans (hb.mono (by simp))⟩
    rw [numCheck, HV.out]
    rfl

theorem firstM_props (l : List UInt8) (h : l ≠ []) : ((firstM l).kind = 1 ∨ (firstM l).kind = 2 ∨ (firstM l).kind = 3 ∨ (firstM l).kind = 0) ∧ (firstM l).text.length ≤ l.length ∧ ((firstM l).kind = 2 → 0 < (firstM l).text.length) ∧ (firstM l).value ≤ 4294967295 ∧ (firstM l).line = 0 := by
  match l, h with
  | c :: r, _ =>
    simp only [firstM]
    by_cases h1 : isLet c.toNat = true
    · rw [if_pos h1]
      refine ⟨.inl rfl, by rw [List.length_take]; omega, fun h => by simp at h, by simp, rfl⟩
    · rw [if_neg h1]
      by_cases h2 : isDig c.toNat = true
      · rw [if_pos h2]
        have h3 : 0 < ext isAlnum (c :: r) := by rw [ext, if_pos (by rw [isAlnum, h2, Bool.or_true])]; omega
        refine ⟨.inr (.inl rfl), by rw [List.length_take]; omega, fun _ => by rw [List.length_take]; simp only [List.length_cons]; omega, ?_, rfl⟩
        rcases hv : pu32 ((c :: r).take (ext isAlnum (c :: r))) with _ | v
        · simp
        · simp only [Option.getD_some]
          unfold pu32 at hv
          split at hv
          · split at hv
            · cases hv
            · exact horner_le 16 _ 0 v (by omega) hv
          · split at hv
            · exact horner_le 10 _ 0 v (by omega) hv
            · cases hv
      · rw [if_neg h2]
        rcases hf : symList.find? (fun x => x.isPrefixOf (c :: r)) with _ | x
        · simp only [hf]
          exact ⟨.inr (.inr (.inr rfl)), Nat.zero_le _, fun h => by simp [Tk.zero] at h, by simp [Tk.zero], rfl⟩
        · have hp := List.find?_some hf
          have := (List.isPrefixOf_iff_prefix.1 hp).length_le
          simp only [hf]
          refine ⟨by simp, this, fun h => by omega, by omega, trivial⟩

/-- what check answers for a token that first has read -/
theorem check_first (l : List UInt8) (h : l ≠ []) (hl : l.length ≤ 1048576) (n : Int) (w : World) :
    Calls Try.prog 19 #[.agg #[.int .i64 (firstM l).kind, .string ⟨(firstM l).text.toArray⟩, .int .u32 (firstM l).value, .int .i64 n]] w
      fun e w' => e = .returned (.int .i64 (checkM (firstM l))) ∧ Below w.heap.size w w' := by
  obtain ⟨hk, hlen, h2, _, _⟩ := firstM_props l h
  have hsz : (⟨(firstM l).text.toArray⟩ : ByteArray).size = (firstM l).text.length := rfl
  rcases hk with hk | hk | hk | hk
  · have e : checkM (firstM l) = if 16 < (⟨(firstM l).text.toArray⟩ : ByteArray).size then 4 else 0 := by rw [checkM, if_pos hk, hsz]
    rw [e, hk]
    refine (check_1 _ _ _ _ (by rw [hsz]; omega)).mono fun e w' h => ⟨?_, h.2⟩
    rw [h.1]; split <;> rfl
  · have e : checkM (firstM l) = numCheck (⟨(firstM l).text.toArray⟩ : ByteArray).data.toList := by rw [checkM, if_neg (by omega), if_pos hk]; rfl
    rw [e, hk]
    exact check_2 _ _ _ _ (by rw [hsz]; omega) (by rw [hsz]; exact h2 hk)
  · have e : checkM (firstM l) = 0 := by rw [checkM, if_neg (by omega), if_neg (by omega), if_pos hk]
    rw [e, hk]
    exact check_3 _ _ _ _
  · have e : checkM (firstM l) = 5 := by rw [checkM, if_neg (by omega), if_neg (by omega), if_neg (by omega)]
    rw [e, hk]
    exact check_0 _ _ _ _

end Go.Proofs.Ytnddfmbgbgiljaa
