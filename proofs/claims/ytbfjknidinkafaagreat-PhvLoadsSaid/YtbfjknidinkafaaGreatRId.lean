/- The walk of the reference's IsIdentifier. No condition but the length of the text. -/
import Derived.Test.YtbfjknidinkafaaGreatPgA
namespace Go.Proofs.YtbfjknidinkafaaGreat
open Go.RowKit
set_option maxHeartbeats 400000 in
theorem rdig5_any (c : Int) (w : World) :
    Calls Tryz.prog 142 #[.int .u8 c] w fun e w' => e = .returned (.bool (isDig c)) ∧ w = w' := by
  go_enter Tryz.func142, Tryz.ntmps142
  go_wp2
  all_goals (go_ret; exact ⟨ret_bool (by rw [Bool.eq_iff_iff]; simp [isDig]; omega), rfl⟩)
theorem isWord_let {c : Int} (h : isLet c = true) : isWord c = true := by rw [isWord, h]; rfl
theorem ext_step {p : Int → Bool} {l : List UInt8} {k : Nat} (hk : k ≤ ext p l) (hlt : k < l.length) (hp : p ((l[k]'hlt).toNat : Nat) = true) : k + 1 ≤ ext p l := by
  rcases Nat.lt_or_ge k (ext p l) with h | h
  · exact h
  · have e : ext p l = k := by omega
    have := ext_stop p l (by omega)
    simp only [e] at this
    rw [hp] at this
    cases this
theorem ext_end {p : Int → Bool} {l : List UInt8} {k : Nat} (hk : k ≤ ext p l) (hlt : k < l.length) (hp : p ((l[k]'hlt).toNat : Nat) = false) : ext p l = k := by
  rcases Nat.lt_or_ge k (ext p l) with h | h
  · have := ext_all p l k h
    rw [hp] at this; cases this
  · omega

set_option maxRecDepth 100000 in
set_option maxHeartbeats 2000000 in
theorem risIdent_any (s : ByteArray) (w : World) (hs : s.size ≤ maxLen) :
    Calls Tryz.prog 92 #[.string s] w fun e w' => e = .returned (.bool (identM s.data.toList)) ∧ w = w' := by
  unfold maxLen at hs
  rcases Nat.eq_zero_or_pos s.size with hz | h0
  · have hz' : s.data.toList = [] := List.eq_nil_of_length_eq_zero hz
    have HZ := Lib.hid hz'
    have h1 : s.toList = [] := by rw [toList_data, hz']
    clear hz hz'
    go_enter Tryz.func92, Tryz.ntmps92
    go_wp2
    go_ret
    exact ⟨by rw [HZ.out]; rfl, rfl⟩
  · have h1 : s.toList.isEmpty = false := by rw [toList_data, list_one s h0]; rfl
    have HI := Lib.hid (identM_head s h0)
    by_cases h16 : 16 < s.size
    · go_enter Tryz.func92, Tryz.ntmps92
      go_wp2
      go_ret
      exact ⟨by rw [HI.out, show decide (s.size ≤ 16) = false from by simp; omega]; rfl, rfl⟩
    · have H16 : Hid (decide (s.size ≤ 16) = true) := Lib.hid (by simp; omega)
      rcases hl : isLet (s[0].toNat : Int) with _ | _
      · have HL := Lib.hid hl
        clear hl
        go_enter Tryz.func92, Tryz.ntmps92
        go_wp2_with fail
        refine (rletter_any _ _).mono ?_
        rintro e w' ⟨rfl, rfl⟩
        have hl := HL.out
        go_wp2
        go_ret
        exact ⟨by rw [HI.out, H16.out, HL.out]; rfl, rfl⟩
      · have HL := Lib.hid hl
        have HM : Hid (identM s.data.toList = decide (ext isWord s.data.toList = s.size)) := Lib.hid (by rw [HI.out, H16.out, hl]; rfl)
        clear hl
        have hle : ext isWord s.data.toList ≤ s.size := ext_le _ _
        go_enter Tryz.func92, Tryz.ntmps92
        go_wp2_with fail
        refine (rletter_any _ _).mono ?_
        rintro e w' ⟨rfl, rfl⟩
        have hl := HL.out
        go_wp2
        clear hl
        go_loop [3] (fun i => ∃ k : Nat, k ≤ ext isWord s.data.toList ∧ i = .int .i64 k) (fun i => s.size - (intOf i).toNat)
        case atStart => exact ⟨0, Nat.zero_le _, rfl⟩
        case round =>
          obtain ⟨k, hk, rfl⟩ := hrel
          by_cases hlt : k < s.size
          · rcases hb1 : isLet (s[k].toNat : Int) with _ | _
            · have HB1 := Lib.hid hb1
              clear hb1
              rcases hb2 : isDig (s[k].toNat : Int) with _ | _
              · have HB2 := Lib.hid hb2
                clear hb2
                rcases hb3 : ((s[k].toNat : Int) == 95) with _ | _
                · have HW : Hid (isWord (s[k].toNat : Int) = false) := Lib.hid (by rw [isWord, HB1.out, HB2.out, hb3]; rfl)
                  have hb3' : ((s[k].toNat : Int) != 95) = true := by rw [bne, hb3]; rfl
                  go_wp2_with fail
                  refine (rletter_any _ _).mono ?_
                  rintro e w' ⟨rfl, rfl⟩
                  have hb1 := HB1.out
                  go_wp2_with fail
                  refine (rdig5_any _ _).mono ?_
                  rintro e w' ⟨rfl, rfl⟩
                  have hb2 := HB2.out
                  go_wp2
                  go_ret
                  refine ⟨ret_bool ?_, rfl⟩
                  have := ext_end hk hlt HW.out
                  rw [HM.out, eq_comm]
                  show decide _ = false
                  rw [decide_eq_false_iff_not]; omega
                · have HW : Hid (isWord (s[k].toNat : Int) = true) := Lib.hid (by rw [isWord, hb3, Bool.or_true])
                  have hb3' : ((s[k].toNat : Int) != 95) = false := by rw [bne, hb3]; rfl
                  go_wp2_with fail
                  refine (rletter_any _ _).mono ?_
                  rintro e w' ⟨rfl, rfl⟩
                  have hb1 := HB1.out
                  go_wp2_with fail
                  refine (rdig5_any _ _).mono ?_
                  rintro e w' ⟨rfl, rfl⟩
                  have hb2 := HB2.out
                  go_wp2
                  go_round
                  case rel => exact ⟨k + 1, ext_step hk hlt HW.out, by go_num⟩
                  case measure => simp [intOf]; omega
              · have HB2 := Lib.hid hb2
                clear hb2
                have HW : Hid (isWord (s[k].toNat : Int) = true) := Lib.hid (by rw [isWord, HB2.out, Bool.or_true, Bool.true_or])
                go_wp2_with fail
                refine (rletter_any _ _).mono ?_
                rintro e w' ⟨rfl, rfl⟩
                have hb1 := HB1.out
                go_wp2_with fail
                refine (rdig5_any _ _).mono ?_
                rintro e w' ⟨rfl, rfl⟩
                have hb2 := HB2.out
                go_wp2
                go_round
                case rel => exact ⟨k + 1, ext_step hk hlt HW.out, by go_num⟩
                case measure => simp [intOf]; omega
            · have HB1 := Lib.hid hb1
              clear hb1
              have HW : Hid (isWord (s[k].toNat : Int) = true) := Lib.hid (isWord_let HB1.out)
              go_wp2_with fail
              refine (rletter_any _ _).mono ?_
              rintro e w' ⟨rfl, rfl⟩
              have hb1 := HB1.out
              go_wp2
              go_round
              case rel => exact ⟨k + 1, ext_step hk hlt HW.out, by go_num⟩
              case measure => simp [intOf]; omega
          · go_wp2
            go_ret
            refine ⟨ret_bool ?_, rfl⟩
            rw [HM.out, eq_comm]
            show decide _ = true
            rw [decide_eq_true_iff]; omega

end Go.Proofs.YtbfjknidinkafaaGreat

