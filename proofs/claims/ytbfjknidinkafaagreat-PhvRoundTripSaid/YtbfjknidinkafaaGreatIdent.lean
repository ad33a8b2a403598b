/- The walk of lexer.IsIdentifier. No condition but the length of the text. -/
import Derived.Test.YtbfjknidinkafaaGreatLexA
namespace Go.Proofs.YtbfjknidinkafaaGreat
open Go.RowKit

theorem list_one (s : ByteArray) (h0 : 0 < s.size) : s.data.toList = s[0] :: s.data.toList.drop 1 := by
  have := List.drop_eq_getElem_cons (l := s.data.toList) (i := 0) h0
  rw [List.drop_zero] at this
  exact this
def identM (l : List UInt8) : Bool := match l with
  | [] => false
  | c :: _ => decide (l.length ≤ 16) && isLet c.toNat && decide (ext isWord l = l.length)
theorem identM_head (s : ByteArray) (h0 : 0 < s.size) : identM s.data.toList = (decide (s.size ≤ 16) && isLet s[0].toNat && decide (ext isWord s.data.toList = s.size)) := by
  have e : s.size = s.data.toList.length := rfl
  rw [e]
  generalize hl : s.data.toList = l
  rw [list_one s h0] at hl
  subst hl
  rfl

theorem ext_id (s : ByteArray) (w : World) (hs : s.size ≤ maxLen) :
    Calls Tryz.prog 193 #[.string s, .func (.func 194) #[] #[]] w fun e w' => e = .returned (.int .i64 (ext isWord s.data.toList)) ∧ w = w' :=
  extent_any _ isWord s w hs (fun _ _ => by kernel_rfl) (Lib.hid word1_any)

set_option maxHeartbeats 1000000 in
theorem isIdent_any (s : ByteArray) (w : World) (hs : s.size ≤ maxLen) :
    Calls Tryz.prog 165 #[.string s] w fun e w' => e = .returned (.bool (identM s.data.toList)) ∧ w = w' := by
  have HS := Lib.hid hs
  unfold maxLen at hs
  rcases Nat.eq_zero_or_pos s.size with hz | h0
  · have hz' : s.data.toList = [] := List.eq_nil_of_length_eq_zero hz
    have HZ := Lib.hid hz'
    have h1 : ((s.size : Int) == 0) = true := by rw [beq_iff_eq]; omega
    clear hz hz'
    go_enter Tryz.func165, Tryz.ntmps165
    go_wp2
    go_ret
    exact ⟨by rw [HZ.out]; rfl, rfl⟩
  · have h1 : ((s.size : Int) == 0) = false := by rw [beq_eq_false_iff_ne]; omega
    have HI := Lib.hid (identM_head s h0)
    by_cases h16 : 16 < s.size
    · go_enter Tryz.func165, Tryz.ntmps165
      go_wp2
      go_ret
      exact ⟨by rw [HI.out, show decide (s.size ≤ 16) = false from by simp; omega]; rfl, rfl⟩
    · have H16 : Hid (decide (s.size ≤ 16) = true) := Lib.hid (by simp; omega)
      rcases hl : isLet (s[0].toNat : Int) with _ | _
      · have HL := Lib.hid hl
        clear hl
        go_enter Tryz.func165, Tryz.ntmps165
        go_wp2_with fail
        refine (isLetter_any _ _).mono ?_
        rintro e w' ⟨rfl, rfl⟩
        have hl := HL.out
        go_wp2
        go_ret
        exact ⟨by rw [HI.out, H16.out, HL.out]; rfl, rfl⟩
      · have HL := Lib.hid hl
        clear hl
        go_enter Tryz.func165, Tryz.ntmps165
        go_wp2_with fail
        refine (isLetter_any _ _).mono ?_
        rintro e w' ⟨rfl, rfl⟩
        have hl := HL.out
        go_wp2_with fail
        refine (ext_id s _ HS.out).mono ?_
        rintro e w' ⟨rfl, rfl⟩
        go_wp2
        go_ret
        refine ⟨ret_bool ?_, rfl⟩
        rw [HI.out, H16.out, HL.out]
        show ((ext isWord s.data.toList : Int) == (s.size : Int)) = decide (ext isWord s.data.toList = s.size)
        rw [Bool.eq_iff_iff, beq_iff_eq, decide_eq_true_iff]; omega

end Go.Proofs.YtbfjknidinkafaaGreat

