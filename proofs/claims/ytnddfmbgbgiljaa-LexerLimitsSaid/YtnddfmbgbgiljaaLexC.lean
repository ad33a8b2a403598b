/- Walks of the lexer's numberError and next. No condition but the length of the text. -/
import Derived.Test.YtnddfmbgbgiljaaLexB
namespace Go.Proofs.Ytnddfmbgbgiljaa
open Go.RowKit

def numErr (l : List UInt8) : Nat :=
  if 2 < l.length ∧ l.take 2 = [48, 120] ∧ ext isHexd (l.drop 2) = l.length - 2 then 9
  else if l.head? ≠ some 48 ∧ ext isDig l = l.length then 9 else 5

set_option maxHeartbeats 400000 in
theorem hexd_any (c : Int) (w : World) :
    Calls Try.prog 37 #[.int .u8 c] w fun e w' => e = .returned (.bool (isHexd c)) ∧ w = w' := by
  go_enter Try.func37, Try.ntmps37
  go_wp2_with (first
    | (go_at_call 22; refine (isDigit_any _ _).mono ?_; rintro e w' ⟨rfl, rfl⟩))
  all_goals (go_ret; exact ⟨ret_bool (by rw [Bool.eq_iff_iff]; simp [isHexd, *]; try omega), rfl⟩)
set_option maxHeartbeats 400000 in
theorem next1_any (c : Int) (w : World) :
    Calls Try.prog 25 #[.int .u8 c] w fun e w' => e = .returned (.bool (isWord c)) ∧ w = w' := by
  go_enter Try.func25, Try.ntmps25
  go_wp2_with (first
    | (go_at_call 20; refine (isLetter_any _ _).mono ?_; rintro e w' ⟨rfl, rfl⟩)
    | (go_at_call 22; refine (isDigit_any _ _).mono ?_; rintro e w' ⟨rfl, rfl⟩))
  all_goals (go_ret; exact ⟨ret_bool (by rw [Bool.eq_iff_iff]; simp [isWord, *]), rfl⟩)
set_option maxHeartbeats 400000 in
theorem next2_any (c : Int) (w : World) :
    Calls Try.prog 26 #[.int .u8 c] w fun e w' => e = .returned (.bool (isAlnum c)) ∧ w = w' := by
  go_enter Try.func26, Try.ntmps26
  go_wp2_with (first
    | (go_at_call 20; refine (isLetter_any _ _).mono ?_; rintro e w' ⟨rfl, rfl⟩)
    | (go_at_call 22; refine (isDigit_any _ _).mono ?_; rintro e w' ⟨rfl, rfl⟩))
  all_goals (go_ret; exact ⟨ret_bool (by rw [Bool.eq_iff_iff]; simp [isAlnum, *]), rfl⟩)

theorem ext_hexd (s : ByteArray) (w : World) (hs : s.size ≤ maxLen) :
    Calls Try.prog 15 #[.string s, .func (.func 37) #[] #[]] w fun e w' => e = .returned (.int .i64 (ext isHexd s.data.toList)) ∧ w = w' :=
  extent_any _ isHexd s w hs (fun _ _ => by kernel_rfl) (Lib.hid hexd_any)
theorem ext_dig (s : ByteArray) (w : World) (hs : s.size ≤ maxLen) :
    Calls Try.prog 15 #[.string s, .func (.func 22) #[] #[]] w fun e w' => e = .returned (.int .i64 (ext isDig s.data.toList)) ∧ w = w' :=
  extent_any _ isDig s w hs (fun _ _ => by kernel_rfl) (Lib.hid isDigit_any)
theorem ext_word (s : ByteArray) (w : World) (hs : s.size ≤ maxLen) :
    Calls Try.prog 15 #[.string s, .func (.func 25) #[] #[]] w fun e w' => e = .returned (.int .i64 (ext isWord s.data.toList)) ∧ w = w' :=
  extent_any _ isWord s w hs (fun _ _ => by kernel_rfl) (Lib.hid next1_any)
theorem ext_alnum (s : ByteArray) (w : World) (hs : s.size ≤ maxLen) :
    Calls Try.prog 15 #[.string s, .func (.func 26) #[] #[]] w fun e w' => e = .returned (.int .i64 (ext isAlnum s.data.toList)) ∧ w = w' :=
  extent_any _ isAlnum s w hs (fun _ _ => by kernel_rfl) (Lib.hid next2_any)

/-- the second half of numberError's answer -/
def numErr2 (l : List UInt8) : Nat := if l.head? ≠ some 48 ∧ ext isDig l = l.length then 9 else 5
theorem take_rest (s : ByteArray) (k : Nat) : List.take (s.size - k) (List.drop k s.data.toList) = s.data.toList.drop k := List.take_of_length_le (by rw [List.length_drop]; exact Nat.le_refl _)
theorem size_len (s : ByteArray) : s.data.toList.length = s.size := rfl
theorem head_ne (s : ByteArray) (h0 : 0 < s.size) : ((s[0].toNat : Int) != 48) = decide (s.data.toList.head? ≠ some 48) := by
  rw [list_one s h0, Bool.eq_iff_iff, bne_iff_ne, decide_eq_true_iff]
  simp only [List.head?_cons, ne_eq, Option.some.injEq]
  rw [← UInt8.toNat_inj]
  show _ ↔ ¬ s[0].toNat = 48
  omega

set_option maxHeartbeats 1000000 in
theorem numberError_a (s : ByteArray) (w : World) (hs : s.size ≤ 1048576) (h0 : 0 < s.size) (x y z : Bool) (hx : decide (2 < s.size) = x)
    (hy : ((s.extract 0 2).toList == [48, 120]) = y) (hz : ((ext isHexd (List.take (s.size - 2) (List.drop 2 s.data.toList)) : Int) == (s.size : Int) - 2) = z) (u v : Bool)
    (hu : ((s[0].toNat : Int) != 48) = u) (hv : ((ext isDig s.data.toList : Int) == (s.size : Int)) = v) :
    Calls Try.prog 28 #[.string s] w fun e w' => e = .returned (.int .i64 (if x && y && z then 9 else if u && v then 9 else 5)) ∧ w = w' := by
  have hm : s.size ≤ maxLen := by unfold maxLen; omega
  cases x <;> cases y <;> cases z <;> cases u <;> cases v
  all_goals
    simp only [decide_eq_true_eq, decide_eq_false_iff_not] at hx
    go_enter Try.func28, Try.ntmps28
    go_wp2_with (first
      | (go_at_call_of 15 (Value.string (s.extract 2 s.size)); refine (ext_hexd _ _ (by unfold maxLen; simp; omega)).mono ?_; rintro e w' ⟨rfl, rfl⟩)
      | (go_at_call 15; refine (ext_dig _ _ hm).mono ?_; rintro e w' ⟨rfl, rfl⟩))
    go_ret
    exact ⟨rfl, rfl⟩

theorem numberError_any (s : ByteArray) (w : World) (hs : s.size ≤ 1048576) (h0 : 0 < s.size) :
    Calls Try.prog 28 #[.string s] w fun e w' => e = .returned (.int .i64 (numErr s.data.toList)) ∧ w = w' := by
  refine (numberError_a s w hs h0 _ _ _ rfl rfl rfl _ _ rfl rfl).mono fun e w' h => ⟨?_, h.2⟩
  rw [h.1]
  refine ret_int ?_
  have e1 : (decide (2 < s.size) && (s.extract 0 2).toList == [48, 120] && ((ext isHexd (List.take (s.size - 2) (List.drop 2 s.data.toList)) : Int) == (s.size : Int) - 2)) =
      decide (2 < s.data.toList.length ∧ s.data.toList.take 2 = [48, 120] ∧ ext isHexd (s.data.toList.drop 2) = s.data.toList.length - 2) := by
    rw [Bool.eq_iff_iff, decide_eq_true_iff, Bool.and_eq_true, Bool.and_eq_true, decide_eq_true_iff, beq_iff_eq, beq_iff_eq, ext2, take_rest, size_len]
    constructor
    · rintro ⟨⟨a, b⟩, c⟩; exact ⟨a, b, by omega⟩
    · rintro ⟨a, b, c⟩; exact ⟨⟨a, b⟩, by omega⟩
  have e2 : (((s[0].toNat : Int) != 48) && ((ext isDig s.data.toList : Int) == (s.size : Int))) = decide (s.data.toList.head? ≠ some 48 ∧ ext isDig s.data.toList = s.data.toList.length) := by
    rw [head_ne s h0, Bool.eq_iff_iff, decide_eq_true_iff, Bool.and_eq_true, decide_eq_true_iff, beq_iff_eq, size_len]
    constructor
    · rintro ⟨a, b⟩; exact ⟨a, by omega⟩
    · rintro ⟨a, b⟩; exact ⟨a, by omega⟩
  rw [e1, e2]
  simp only [decide_eq_true_eq]
  unfold numErr
  split <;> rename_i h
  · rfl
  · split <;> rfl

structure Tk where
  kind : Nat
  text : List UInt8
  value : Nat
  line : Nat
  deriving DecidableEq
def Tk.cells (t : Tk) : Array Value := #[.int .i64 t.kind, .string ⟨t.text.toArray⟩, .int .u32 t.value, .int .i64 t.line]
def Tk.zero : Tk := ⟨0, [], 0, 0⟩
/-- the token at the head of a text that begins with no separator, and its error -/
def nextM (l : List UInt8) : Tk × Nat :=
  match l with
  | [] => (Tk.zero, 5)
  | c :: _ =>
    if isLet c.toNat = true then
      (if 16 < ext isWord l then (Tk.zero, 4) else (⟨1, l.take (ext isWord l), 0, 0⟩, 0))
    else if isDig c.toNat = true then
      (match pu32 (l.take (ext isAlnum l)) with
      | none => (Tk.zero, numErr (l.take (ext isAlnum l)))
      | some v => (⟨2, l.take (ext isAlnum l), v, 0⟩, 0))
    else if sym l = 0 then (Tk.zero, 5) else (⟨3, l.take (sym l), 0, 0⟩, 0)

def nextEnd (l : List UInt8) : Ending := .returned (.tuple #[.agg (nextM l).1.cells, .int .i64 (nextM l).2])

theorem take_str (s : ByteArray) (n : Nat) : s.extract 0 n = ⟨(s.data.toList.take n).toArray⟩ := by
  apply ByteArray.ext
  rw [ByteArray.data_extract]
  apply Array.ext'
  simp
theorem take_data (s : ByteArray) (n : Nat) : (s.extract 0 n).data.toList = s.data.toList.take n := by rw [take_str]
theorem size_take (s : ByteArray) {n : Nat} (h : n ≤ s.size) : (s.extract 0 n).size = n := by simp; omega
theorem isLet_head (s : ByteArray) (h0 : 0 < s.size) : nextM s.data.toList =
    if isLet s[0].toNat = true then (if 16 < ext isWord s.data.toList then (Tk.zero, 4) else (⟨1, s.data.toList.take (ext isWord s.data.toList), 0, 0⟩, 0))
    else if isDig s[0].toNat = true then
      (match pu32 (s.data.toList.take (ext isAlnum s.data.toList)) with
      | none => (Tk.zero, numErr (s.data.toList.take (ext isAlnum s.data.toList)))
      | some v => (⟨2, s.data.toList.take (ext isAlnum s.data.toList), v, 0⟩, 0))
    else if sym s.data.toList = 0 then (Tk.zero, 5) else (⟨3, s.data.toList.take (sym s.data.toList), 0, 0⟩, 0) := by
  generalize hl : s.data.toList = l
  rw [list_one s h0] at hl
  subst hl
  rfl

set_option maxHeartbeats 1000000 in
theorem next_let (s : ByteArray) (w : World) (hs : s.size ≤ 1048576) (h0 : 0 < s.size) (hl : isLet (s[0].toNat : Int) = true) :
    Calls Try.prog 17 #[.string s] w fun e w' => e = nextEnd s.data.toList ∧ Below w.heap.size w w' := by
  have hm : s.size ≤ maxLen := by unfold maxLen; omega
  have hle : ext isWord s.data.toList ≤ s.size := ext_le _ _
  have HN := Lib.hid (isLet_head s h0)
  have HL := Lib.hid hl
  clear hl
  by_cases hg : 16 < ext isWord s.data.toList
  · have HG := Lib.hid hg
    go_enter Try.func17, Try.ntmps17
    go_wp2_with fail
    refine (isLetter_any _ _).mono ?_
    rintro e w' ⟨rfl, rfl⟩
    have hl := HL.out
    go_wp2_with fail
    refine (ext_word _ _ hm).mono ?_
    rintro e w' ⟨rfl, rfl⟩
    clear hl
    go_wp2
    refine bodyPost_ret (v := .tuple #[.agg Tk.zero.cells, .int .i64 4]) (by simp [results, Try.results17, go_sem]; rfl) rfl ⟨?_, (Below.refl _ _).alloc (Nat.le_refl _) _⟩
    rw [nextEnd, HN.out, if_pos HL.out, if_pos HG.out]
    rfl
  · have HG := Lib.hid hg
    go_enter Try.func17, Try.ntmps17
    go_wp2_with fail
    refine (isLetter_any _ _).mono ?_
    rintro e w' ⟨rfl, rfl⟩
    have hl := HL.out
    go_wp2_with fail
    refine (ext_word _ _ hm).mono ?_
    rintro e w' ⟨rfl, rfl⟩
    clear hl
    go_wp2
    refine bodyPost_ret (v := .tuple #[.agg #[.int .i64 1, .string (s.extract 0 (ext isWord s.data.toList)), .int .u32 0, .int .i64 0], .int .i64 0]) (by simp [results, Try.results17, go_sem]) rfl ⟨?_, (Below.refl _ _).alloc (Nat.le_refl _) _⟩
    rw [nextEnd, HN.out, if_pos HL.out, if_neg HG.out, take_str]
    rfl

set_option maxHeartbeats 1000000 in
theorem next_dig (s : ByteArray) (w : World) (hs : s.size ≤ 1048576) (h0 : 0 < s.size) (hl : isLet (s[0].toNat : Int) = false) (hd : isDig (s[0].toNat : Int) = true) :
    Calls Try.prog 17 #[.string s] w fun e w' => e = nextEnd s.data.toList ∧ Below w.heap.size w w' := by
  have hm : s.size ≤ maxLen := by unfold maxLen; omega
  have hle : ext isAlnum s.data.toList ≤ s.size := ext_le _ _
  have HP : Hid (0 < ext isAlnum s.data.toList) := by
    refine Lib.hid ?_
    rw [list_one s h0, ext, if_pos (by rw [isAlnum, hd, Bool.or_true])]
    omega
  have HN := Lib.hid (isLet_head s h0)
  have HL := Lib.hid hl
  have HD := Lib.hid hd
  clear hl hd
  have hsz : (s.extract 0 (ext isAlnum s.data.toList)).size ≤ 1048576 := by simp; omega
  have HS := Lib.hid hsz
  clear hsz
  rcases hv : pu32 (s.data.toList.take (ext isAlnum s.data.toList)) with _ | v
  · have HV := Lib.hid hv
    clear hv
    go_enter Try.func17, Try.ntmps17
    go_wp2_with fail
    refine (isLetter_any _ _).mono ?_
    rintro e w' ⟨rfl, rfl⟩
    have hl := HL.out
    go_wp2_with fail
    refine (isDigit_any _ _).mono ?_
    rintro e w' ⟨rfl, rfl⟩
    have hd := HD.out
    go_wp2_with fail
    refine (ext_alnum _ _ hm).mono ?_
    rintro e w' ⟨rfl, rfl⟩
    clear hl hd
    go_wp2_with fail
    refine (parseUint32_any _ _ HS.out).mono ?_
    rintro e w1 ⟨rfl, hb⟩
    rw [show pu32v (s.extract 0 (ext isAlnum s.data.toList)).data.toList = .tuple #[.int .u32 0, .bool false] from by rw [pu32v, take_data, HV.out]]
    have hz : w.heap.size + 1 ≤ w1.heap.size := by have := hb.size; simpa using this
    have hc : ∀ i, w1.cell? ⟨w.heap.size, i, none⟩ = (w.alloc (.cells #[.int .i64 0, .string ⟨#[]⟩, .int .u32 0, .int .i64 0] 34)).cell? ⟨w.heap.size, i, none⟩ := fun i => hb.cell (by simp)
    have hf : ∀ i, w1.frozen? ⟨w.heap.size, i, none⟩ = (w.alloc (.cells #[.int .i64 0, .string ⟨#[]⟩, .int .u32 0, .int .i64 0] 34)).frozen? ⟨w.heap.size, i, none⟩ := fun i => hb.frozen (by simp)
    go_wp2_with fail
    refine (numberError_any _ _ HS.out (by rw [size_take s hle]; exact HP.out)).mono ?_
    rintro e w' ⟨rfl, rfl⟩
    go_wp2
    have hbk : Blk w1 w.heap.size 34 #[.int .i64 0, .string ⟨#[]⟩, .int .u32 0, .int .i64 0] := (Blk.new w 34 _).below hb (by simp)
    refine bodyPost_ret (results_row_tmp rfl _ _ w.heap.size 34 #[.int .i64 0, .string ⟨#[]⟩, .int .u32 0, .int .i64 0] _ rfl ((((hbk.set_ 0 _).set_ 1 _).set_ 2 _).set_ 3 _) Try.underlying34 rfl (by kernel_rfl)) rfl ⟨?_, ?_⟩
    · rw [nextEnd, HN.out, if_neg (by rw [HL.out]; decide), if_pos HD.out, HV.out]
      rfl
    · exact ((((((Below.refl _ _).alloc (Nat.le_refl _) _).trans (hb.mono (by simp))).setCell (p := ⟨w.heap.size, 0, none⟩) (Nat.le_refl _) _).setCell (p := ⟨w.heap.size, 1, none⟩) (Nat.le_refl _) _).setCell (p := ⟨w.heap.size, 2, none⟩) (Nat.le_refl _) _).setCell (p := ⟨w.heap.size, 3, none⟩) (Nat.le_refl _) _
  · have HV := Lib.hid hv
    clear hv
    go_enter Try.func17, Try.ntmps17
    go_wp2_with fail
    refine (isLetter_any _ _).mono ?_
    rintro e w' ⟨rfl, rfl⟩
    have hl := HL.out
    go_wp2_with fail
    refine (isDigit_any _ _).mono ?_
    rintro e w' ⟨rfl, rfl⟩
    have hd := HD.out
    go_wp2_with fail
    refine (ext_alnum _ _ hm).mono ?_
    rintro e w' ⟨rfl, rfl⟩
    clear hl hd
    go_wp2_with fail
    refine (parseUint32_any _ _ HS.out).mono ?_
    rintro e w1 ⟨rfl, hb⟩
    rw [show pu32v (s.extract 0 (ext isAlnum s.data.toList)).data.toList = .tuple #[.int .u32 v, .bool true] from by rw [pu32v, take_data, HV.out]]
    have hz : w.heap.size + 1 ≤ w1.heap.size := by have := hb.size; simpa using this
    have hc : ∀ i, w1.cell? ⟨w.heap.size, i, none⟩ = (w.alloc (.cells #[.int .i64 0, .string ⟨#[]⟩, .int .u32 0, .int .i64 0] 34)).cell? ⟨w.heap.size, i, none⟩ := fun i => hb.cell (by simp)
    have hf : ∀ i, w1.frozen? ⟨w.heap.size, i, none⟩ = (w.alloc (.cells #[.int .i64 0, .string ⟨#[]⟩, .int .u32 0, .int .i64 0] 34)).frozen? ⟨w.heap.size, i, none⟩ := fun i => hb.frozen (by simp)
    go_wp2
    have hbk : Blk w1 w.heap.size 34 #[.int .i64 0, .string ⟨#[]⟩, .int .u32 0, .int .i64 0] := (Blk.new w 34 _).below hb (by simp)
    refine bodyPost_ret (results_row_tmp rfl _ _ w.heap.size 34 #[.int .i64 2, .string (s.extract 0 (ext isAlnum s.data.toList)), .int .u32 v, .int .i64 0] _ rfl ((((hbk.set_ 0 _).set_ 1 _).set_ 2 _).set_ 3 _) Try.underlying34 rfl (by kernel_rfl)) rfl ⟨?_, ?_⟩
    · rw [nextEnd, HN.out, if_neg (by rw [HL.out]; decide), if_pos HD.out, HV.out]
      simp only [take_str]; rfl
    · exact ((((((Below.refl _ _).alloc (Nat.le_refl _) _).trans (hb.mono (by simp))).setCell (p := ⟨w.heap.size, 0, none⟩) (Nat.le_refl _) _).setCell (p := ⟨w.heap.size, 1, none⟩) (Nat.le_refl _) _).setCell (p := ⟨w.heap.size, 2, none⟩) (Nat.le_refl _) _).setCell (p := ⟨w.heap.size, 3, none⟩) (Nat.le_refl _) _

set_option maxHeartbeats 1000000 in
theorem next_sym (s : ByteArray) (w : World) (hs : s.size ≤ 1048576) (h0 : 0 < s.size) (hl : isLet (s[0].toNat : Int) = false) (hd : isDig (s[0].toNat : Int) = false) :
    Calls Try.prog 17 #[.string s] w fun e w' => e = nextEnd s.data.toList ∧ Below w.heap.size w w' := by
  have HN := Lib.hid (isLet_head s h0)
  have HL := Lib.hid hl
  have HD := Lib.hid hd
  clear hl hd
  have hle : sym s.data.toList ≤ s.size := by
    unfold sym
    split
    · rename_i h
      rcases Nat.lt_or_ge s.size 2 with h2 | h2
      · exfalso
        obtain ⟨a, ha⟩ := List.length_eq_one_iff.1 (show s.data.toList.length = 1 by show s.size = 1; omega)
        rw [ha] at h
        simp [twos] at h
      · exact h2
    · split
      · exact Nat.zero_le _
      · split <;> omega
  by_cases hz : sym s.data.toList = 0
  all_goals
    have HZ := Lib.hid hz
    clear hz
    go_enter Try.func17, Try.ntmps17
    go_wp2_with fail
    refine (isLetter_any _ _).mono ?_
    rintro e w' ⟨rfl, rfl⟩
    have hl := HL.out
    go_wp2_with fail
    refine (isDigit_any _ _).mono ?_
    rintro e w' ⟨rfl, rfl⟩
    have hd := HD.out
    go_wp2_with fail
    refine (symbol_any _ _ hs h0).mono ?_
    rintro e w' ⟨rfl, rfl⟩
    clear hl hd
  · have hz : ((sym s.data.toList : Int) == 0) = true := beq_iff_eq.2 (by have := HZ.out; omega)
    go_wp2
    refine bodyPost_ret (v := .tuple #[.agg Tk.zero.cells, .int .i64 5]) (by simp [results, Try.results17, go_sem]; rfl) rfl ⟨?_, (Below.refl _ _).alloc (Nat.le_refl _) _⟩
    rw [nextEnd, HN.out, if_neg (by rw [HL.out]; decide), if_neg (by rw [HD.out]; decide), if_pos HZ.out]
    rfl
  · have hz : ((sym s.data.toList : Int) == 0) = false := beq_eq_false_iff_ne.2 (by have := HZ.out; omega)
    go_wp2
    refine bodyPost_ret (v := .tuple #[.agg #[.int .i64 3, .string (s.extract 0 (sym s.data.toList)), .int .u32 0, .int .i64 0], .int .i64 0]) (by simp [results, Try.results17, go_sem]) rfl ⟨?_, (Below.refl _ _).alloc (Nat.le_refl _) _⟩
    rw [nextEnd, HN.out, if_neg (by rw [HL.out]; decide), if_neg (by rw [HD.out]; decide), if_neg HZ.out, take_str]
    rfl

theorem next_any (s : ByteArray) (w : World) (hs : s.size ≤ 1048576) (h0 : 0 < s.size) :
    Calls Try.prog 17 #[.string s] w fun e w' => e = nextEnd s.data.toList ∧ Below w.heap.size w w' := by
  rcases hl : isLet (s[0].toNat : Int) with _ | _
  · rcases hd : isDig (s[0].toNat : Int) with _ | _
    · exact next_sym s w hs h0 hl hd
    · exact next_dig s w hs h0 hl hd
  · exact next_let s w hs h0 hl

end Go.Proofs.Ytnddfmbgbgiljaa
