/- The walk of the reference lexer's first. No condition but the length of the text. -/
import Derived.Test.YtnddfmbgbgiljaaRefC
namespace Go.Proofs.Ytnddfmbgbgiljaa
open Go.RowKit

/-- the first token as the reference reads it, without a line -/
def firstM (l : List UInt8) : Tk :=
  match l with
  | [] => Tk.zero
  | c :: _ =>
    if isLet c.toNat = true then ⟨1, l.take (ext isWord l), 0, 0⟩
    else if isDig c.toNat = true then ⟨2, l.take (ext isAlnum l), (pu32 (l.take (ext isAlnum l))).getD 0, 0⟩
    else match symList.find? (fun x => x.isPrefixOf l) with
      | none => Tk.zero
      | some x => ⟨3, x, 0, 0⟩
theorem firstM_head (s : ByteArray) (h0 : 0 < s.size) : firstM s.data.toList =
    if isLet s[0].toNat = true then ⟨1, s.data.toList.take (ext isWord s.data.toList), 0, 0⟩
    else if isDig s[0].toNat = true then ⟨2, s.data.toList.take (ext isAlnum s.data.toList), (pu32 (s.data.toList.take (ext isAlnum s.data.toList))).getD 0, 0⟩
    else match symList.find? (fun x => x.isPrefixOf s.data.toList) with
      | none => Tk.zero
      | some x => ⟨3, x, 0, 0⟩ := by
  generalize hl : s.data.toList = l
  rw [list_one s h0] at hl
  subst hl
  rfl
def firstEnd (l : List UInt8) : Ending := .returned (.agg (firstM l).cells)

set_option maxRecDepth 100000 in
set_option maxHeartbeats 2000000 in
theorem first_let (s : ByteArray) (w : World) (hs : s.size ≤ 1048576) (h0 : 0 < s.size) (hl : isLet (s[0].toNat : Int) = true) :
    Calls Try.prog 18 #[.string s] w fun e w' => e = firstEnd s.data.toList ∧ Below w.heap.size w w' := by
  have hle : ext isWord s.data.toList ≤ s.size := ext_le _ _
  have h1 : 1 ≤ ext isWord s.data.toList := by rw [list_one s h0, ext, if_pos (isWord_let hl)]; omega
  have HN := Lib.hid (firstM_head s h0)
  have HL := Lib.hid hl
  clear hl
  go_enter Try.func18, Try.ntmps18
  go_wp2_with fail
  refine (rletter_any _ _).mono ?_
  rintro e w' ⟨rfl, rfl⟩
  have hl := HL.out
  go_wp2
  clear hl
  go_loop [3] (fun i => ∃ k : Nat, 1 ≤ k ∧ k ≤ ext isWord s.data.toList ∧ i = .int .i64 k) (fun i => s.size - (intOf i).toNat)
  case atStart => exact ⟨1, Nat.le_refl _, h1, rfl⟩
  case round =>
    obtain ⟨k, hk1, hk, rfl⟩ := hrel
    by_cases hlt : k < s.size
    · rcases hb1 : isLet (s[k].toNat : Int) with _ | _
      · have HB1 := Lib.hid hb1
        clear hb1
        rcases hb2 : isDig (s[k].toNat : Int) with _ | _
        · have HB2 := Lib.hid hb2
          clear hb2
          rcases hb3 : ((s[k].toNat : Int) == 95) with _ | _
          · have HW : Hid (isWord (s[k].toNat : Int) = false) := Lib.hid (by rw [isWord, HB1.out, HB2.out, hb3]; rfl)
            go_wp2_with fail
            refine (rletter_any _ _).mono ?_
            rintro e w' ⟨rfl, rfl⟩
            have hb1 := HB1.out
            go_wp2_with fail
            refine (rdig5_any _ _).mono ?_
            rintro e w' ⟨rfl, rfl⟩
            have hb2 := HB2.out
            go_wp2
            have he := ext_end hk hlt HW.out
            refine bodyPost_ret (v := .agg #[.int .i64 1, .string (s.extract 0 k), .int .u32 0, .int .i64 0]) (by simp [results, Try.results18, go_sem]) rfl ⟨?_, (Below.refl _ _).alloc (Nat.le_refl _) _⟩
            rw [firstEnd, HN.out, if_pos HL.out, take_str, he]
            rfl
          · have HW : Hid (isWord (s[k].toNat : Int) = true) := Lib.hid (by rw [isWord, hb3, Bool.or_true])
            go_wp2_with fail
            refine (rletter_any _ _).mono ?_
            rintro e w' ⟨rfl, rfl⟩
            have hb1 := HB1.out
            go_wp2_with fail
            refine (rdig5_any _ _).mono ?_
            rintro e w' ⟨rfl, rfl⟩
            have hb2 := HB2.out
            go_wp2
            go_round
            case rel => exact ⟨k + 1, by omega, ext_step hk hlt HW.out, by go_num⟩
            case measure => simp [intOf]; omega
        · have HB2 := Lib.hid hb2
          clear hb2
          have HW : Hid (isWord (s[k].toNat : Int) = true) := Lib.hid (by rw [isWord, HB2.out, Bool.or_true, Bool.true_or])
          go_wp2_with fail
          refine (rletter_any _ _).mono ?_
          rintro e w' ⟨rfl, rfl⟩
          have hb1 := HB1.out
          go_wp2_with fail
          refine (rdig5_any _ _).mono ?_
          rintro e w' ⟨rfl, rfl⟩
          have hb2 := HB2.out
          go_wp2
          go_round
          case rel => exact ⟨k + 1, by omega, ext_step hk hlt HW.out, by go_num⟩
          case measure => simp [intOf]; omega
      · have HB1 := Lib.hid hb1
        clear hb1
        have HW : Hid (isWord (s[k].toNat : Int) = true) := Lib.hid (isWord_let HB1.out)
        go_wp2_with fail
        refine (rletter_any _ _).mono ?_
        rintro e w' ⟨rfl, rfl⟩
        have hb1 := HB1.out
        go_wp2
        go_round
        case rel => exact ⟨k + 1, by omega, ext_step hk hlt HW.out, by go_num⟩
        case measure => simp [intOf]; omega
    · have he : ext isWord s.data.toList = k := by omega
      have HE := Lib.hid he
      clear he
      go_wp2
      refine bodyPost_ret (v := .agg #[.int .i64 1, .string (s.extract 0 k), .int .u32 0, .int .i64 0]) (by simp [results, Try.results18, go_sem]) rfl ⟨?_, (Below.refl _ _).alloc (Nat.le_refl _) _⟩
      rw [firstEnd, HN.out, if_pos HL.out, take_str, HE.out]
      rfl

/-- what stands behind the digits' loop -/
def DigEnd (s : ByteArray) (w : World) (e : Ending) (w' : World) : Prop := e = firstEnd s.data.toList ∧ Below w.heap.size w w'

set_option maxRecDepth 100000 in
set_option maxHeartbeats 2000000 in
theorem first_dig (s : ByteArray) (w : World) (hs : s.size ≤ 1048576) (h0 : 0 < s.size) (hl : isLet (s[0].toNat : Int) = false) (hd : isDig (s[0].toNat : Int) = true) :
    Calls Try.prog 18 #[.string s] w fun e w' => DigEnd s w e w' := by
  have hle : ext isAlnum s.data.toList ≤ s.size := ext_le _ _
  have h1 : 1 ≤ ext isAlnum s.data.toList := by rw [list_one s h0, ext, if_pos (by rw [isAlnum, hd, Bool.or_true])]; omega
  have HN := Lib.hid (firstM_head s h0)
  have HL := Lib.hid hl
  have HD := Lib.hid hd
  clear hl hd
  go_enter Try.func18, Try.ntmps18
  go_wp2_with fail
  refine (rletter_any _ _).mono ?_
  rintro e w' ⟨rfl, rfl⟩
  have hl := HL.out
  go_wp2_with fail
  refine (rdig5_any _ _).mono ?_
  rintro e w' ⟨rfl, rfl⟩
  have hd := HD.out
  go_wp2
  clear hl hd
  go_loop [3] (fun i => ∃ k : Nat, 1 ≤ k ∧ k ≤ ext isAlnum s.data.toList ∧ i = .int .i64 k) (fun i => s.size - (intOf i).toNat)
  case atStart => exact ⟨1, Nat.le_refl _, h1, rfl⟩
  case round =>
    obtain ⟨k, hk1, hk, rfl⟩ := hrel
    have hcase : (k < s.size ∧ ∃ h : k < s.size, isLet ((s[k]'h).toNat : Int) = true) ∨ (k < s.size ∧ ∃ h : k < s.size, isLet ((s[k]'h).toNat : Int) = false ∧ isDig ((s[k]'h).toNat : Int) = true) ∨
        (ext isAlnum s.data.toList = k ∧ k < s.size ∧ ∃ h : k < s.size, isLet ((s[k]'h).toNat : Int) = false ∧ isDig ((s[k]'h).toNat : Int) = false) ∨ (ext isAlnum s.data.toList = k ∧ ¬ k < s.size) := by
      by_cases hlt : k < s.size
      · rcases hb1 : isLet (s[k].toNat : Int) with _ | _
        · rcases hb2 : isDig (s[k].toNat : Int) with _ | _
          · exact .inr (.inr (.inl ⟨ext_end hk hlt (by show isAlnum (s[k].toNat : Int) = false; rw [isAlnum, hb1, hb2]; rfl), hlt, hlt, hb1, hb2⟩))
          · exact .inr (.inl ⟨hlt, hlt, hb1, hb2⟩)
        · exact .inl ⟨hlt, hlt, hb1⟩
      · exact .inr (.inr (.inr ⟨by omega, hlt⟩))
    have HEND : Hid (ext isAlnum s.data.toList = k → firstM s.data.toList = ⟨2, s.data.toList.take k, (pu32 (s.data.toList.take k)).getD 0, 0⟩) := Lib.hid fun e => by
      rw [HN.out, if_neg (by rw [HL.out]; decide), if_pos HD.out, e]
    rcases hcase with ⟨hlt, hlt', hb1⟩ | ⟨hlt, hlt', hb1, hb2⟩ | hfin
    · have HB1 := Lib.hid hb1
      clear hb1
      go_wp2_with fail
      refine (rletter_any _ _).mono ?_
      rintro e w' ⟨rfl, rfl⟩
      have hb1 := HB1.out
      go_wp2
      go_round
      case rel => exact ⟨k + 1, by omega, ext_step hk hlt (by show isAlnum (s[k].toNat : Int) = true; rw [isAlnum, hb1]; rfl), by go_num⟩
      case measure => simp [intOf]; omega
    · have HB1 := Lib.hid hb1
      have HB2 := Lib.hid hb2
      clear hb1 hb2
      go_wp2_with fail
      refine (rletter_any _ _).mono ?_
      rintro e w' ⟨rfl, rfl⟩
      have hb1 := HB1.out
      go_wp2_with fail
      refine (rdig5_any _ _).mono ?_
      rintro e w' ⟨rfl, rfl⟩
      have hb2 := HB2.out
      go_wp2
      go_round
      case rel => exact ⟨k + 1, by omega, ext_step hk hlt (by show isAlnum (s[k].toNat : Int) = true; rw [isAlnum, hb2, Bool.or_true]), by go_num⟩
      case measure => simp [intOf]; omega
    · have hks : k ≤ s.size := by omega
      have hsz : (s.extract 0 k).size ≤ 1048576 := by rw [size_take s hks]; omega
      have HS := Lib.hid hsz
      clear hsz
      have HF : Hid (firstM s.data.toList = ⟨2, s.data.toList.take k, (pu32 (s.data.toList.take k)).getD 0, 0⟩) := Lib.hid (HEND.out (by rcases hfin with h | h; exact h.1; exact h.1))
      have hfin' : (k < s.size ∧ ∃ h : k < s.size, isLet ((s[k]'h).toNat : Int) = false ∧ isDig ((s[k]'h).toNat : Int) = false) ∨ ¬ k < s.size := by
        rcases hfin with h | h
        · exact .inl h.2
        · exact .inr h.2
      clear hfin
      rcases hv : pu32 (s.data.toList.take k) with _ | v
      all_goals
        have HV := Lib.hid hv
        clear hv
        rcases hfin' with ⟨hlt, hlt', hb1, hb2⟩ | hlt
      all_goals first
        | (have HB1 := Lib.hid hb1
           have HB2 := Lib.hid hb2
           clear hb1 hb2
           go_wp2_with fail
           refine (rletter_any _ _).mono ?_
           rintro e w' ⟨rfl, rfl⟩
           have hb1 := HB1.out
           go_wp2_with fail
           refine (rdig5_any _ _).mono ?_
           rintro e w' ⟨rfl, rfl⟩
           have hb2 := HB2.out
           go_wp2_with fail)
        | go_wp2_with fail
      all_goals
        refine (rparseUint32_any _ _ HS.out).mono ?_
        rintro e w1 ⟨rfl, hb⟩
        rw [take_data, rpu32_eq, HV.out, u32v]
        have hz : w.heap.size + 1 ≤ w1.heap.size := by have := hb.size; simpa using this
        have hc : ∀ i, w1.cell? ⟨w.heap.size, i, none⟩ = (w.alloc (.cells #[.int .i64 0, .string ⟨#[]⟩, .int .u32 0, .int .i64 0] 43)).cell? ⟨w.heap.size, i, none⟩ := fun i => hb.cell (by simp)
        have hf : ∀ i, w1.frozen? ⟨w.heap.size, i, none⟩ = (w.alloc (.cells #[.int .i64 0, .string ⟨#[]⟩, .int .u32 0, .int .i64 0] 43)).frozen? ⟨w.heap.size, i, none⟩ := fun i => hb.frozen (by simp)
        go_wp2
        have hbk : Blk w1 w.heap.size 43 #[.int .i64 0, .string ⟨#[]⟩, .int .u32 0, .int .i64 0] := (Blk.new w 43 _).below hb (by simp)
        have hbel : Below w.heap.size w w1 := ((Below.refl _ _).alloc (Nat.le_refl _) _).trans (hb.mono (by simp))
        refine bodyPost_ret (results_cell_row rfl _ _ w.heap.size 43 _ _ _ rfl ((((hbk.set_ 0 _).set_ 1 _).set_ 2 _).set_ 3 _) Try.underlying43 rfl (by kernel_rfl)) rfl ⟨?_, ?_⟩
        · rw [firstEnd, HF.out, HV.out, take_str]
          rfl
        · exact (((hbel.setCell (p := ⟨w.heap.size, 0, none⟩) (Nat.le_refl _) _).setCell (p := ⟨w.heap.size, 1, none⟩) (Nat.le_refl _) _).setCell (p := ⟨w.heap.size, 2, none⟩) (Nat.le_refl _) _).setCell (p := ⟨w.heap.size, 3, none⟩) (Nat.le_refl _) _

end Go.Proofs.Ytnddfmbgbgiljaa
