/- The walk of numtext's number.value, and of ParseUint32. No condition but the length of the text. -/
import Derived.Test.YtnddfmbgbgiljaaDoorNumA
namespace Go.Proofs.YtnddfmbgbgiljaaDoor
open Go.RowKit

/-- Horner's rule, stopping at a byte that is no digit and at a number above the greatest uint32 -/
def horner (base : Nat) : Nat → List UInt8 → Option Nat
  | acc, [] => some acc
  | acc, c :: l => match dgt base c with
    | none => none
    | some d => if 4294967295 < acc * base + d then none else horner base (acc * base + d) l
theorem dgt_lt {base : Nat} {c : UInt8} {d : Nat} (h : dgt base c = some d) : d < 16 := by
  unfold dgt at h
  split at h
  · rename_i hc
    injection h with h
    have := hc.2
    rw [UInt8.le_iff_toNat_le] at this
    have e : (57 : UInt8).toNat = 57 := rfl
    omega
  · split at h
    · rename_i hc
      injection h with h
      have := hc.2.2
      rw [UInt8.le_iff_toNat_le] at this
      have e : (102 : UInt8).toNat = 102 := rfl
      omega
    · cases h

def valEnd (base : Nat) (s : ByteArray) (at_ : Nat) : Value :=
  match horner base 0 (s.data.toList.drop at_) with
  | none => .tuple #[.int .u64 0, .int .i64 0, .bool false]
  | some v => .tuple #[.int .u64 v, .int .i64 ((s.size - at_ : Nat) : Int), .bool (decide (at_ < s.size))]

theorem drop_cons (s : ByteArray) (k : Nat) (h : k < s.size) : s.data.toList.drop k = s[k] :: s.data.toList.drop (k + 1) := by
  rw [List.drop_eq_getElem_cons (by exact h)]; rfl

set_option maxHeartbeats 1000000 in
theorem value_any (base b at_ : Nat) (s : ByteArray) (w : World) (hB : Blk w b 48 #[.string s, .int .i64 at_, .int .i64 base]) (hs : at_ ≤ s.size) (hm : s.size ≤ 1048576)
    (hb : base = 10 ∨ base = 16) :
    Calls Tryd.prog 27 #[.pointer (some ⟨b, 0, none⟩), .int .u64 4294967295] w
      fun e w' => e = .returned (valEnd base s at_) ∧ Below b w w' := by
  have HB := Lib.hid hb
  have hbl : base ≤ 16 := by omega
  clear hb
  go_enter Tryd.func27, Tryd.ntmps27
  go_wp2
  go_loopw [4, 5, 6, 8, 9] (fun v d o x y wr => ∃ k n : Nat, at_ ≤ k ∧ k ≤ s.size ∧ n ≤ 4294967295 ∧ v = .int .u64 n ∧ d = .int .i64 ((k - at_ : Nat) : Int) ∧ o = .bool false ∧
      Hid (horner base 0 (s.data.toList.drop at_) = horner base n (s.data.toList.drop k)) ∧ Blk wr b 48 #[.string s, .int .i64 k, .int .i64 base] ∧ Below b w wr)
    (fun _ d _ _ _ _ => s.size - (intOf d).toNat)
  case atStart => exact ⟨at_, 0, Nat.le_refl _, hs, by omega, rfl, by simp, rfl, Lib.hid rfl, hB, Below.refl _ _⟩
  case round =>
    obtain ⟨k, n, hk1, hk2, hn, rfl, rfl, rfl, HH, hBr, hbel⟩ := hrel
    have h0 : wr.cell? ⟨b, 0, none⟩ = some (.string s) := hBr.cell 0
    have h1 : wr.cell? ⟨b, 1, none⟩ = some (.int .i64 k) := hBr.cell 1
    have h2 : wr.cell? ⟨b, 2, none⟩ = some (.int .i64 base) := hBr.cell 2
    have hf : wr.frozen? ⟨b, 1, none⟩ = false := hBr.frozen 1
    by_cases hlt : k < s.size
    · have ht : ((k : Int) == (s.size : Int)) = false := beq_eq_false_iff_ne.2 (by omega)
      rcases hd : dgt base s[k] with _ | d
      · have HD := Lib.hid hd
        clear hd
        go_wp2_with fail
        refine (done_any _ _ _ _ h0 h1).mono ?_
        rintro e w' ⟨rfl, n1, rfl⟩
        go_wp2_with fail
        refine (digit_none base b k s (wr.drewN n1) h0 h1 hlt hm HB.out HD.out).mono ?_
        rintro e w' ⟨rfl, n2, rfl⟩
        go_wp2
        go_ret3
        refine ⟨?_, (by repeat (first | exact hbel | refine below_drewN ?_ _ | refine Below.setCell (p := ⟨b, 1, none⟩) ?_ (Nat.le_refl b) _))⟩
        have e : horner base 0 (s.data.toList.drop at_) = none := by
          rw [HH.out, drop_cons s k hlt, horner, HD.out]
        rw [valEnd, e]; rfl
      · have HD := Lib.hid hd
        have hd16 := dgt_lt hd
        clear hd
        have hmul : n * base ≤ 4294967295 * 16 := Nat.mul_le_mul hn hbl
        have hc1 : ((n : Int) * (base : Int)) = ((n * base : Nat) : Int) := by simp
        have HC := Lib.hid hc1
        have hA0 : 0 ≤ (n : Int) * (base : Int) := by omega
        have hA1 : (n : Int) * (base : Int) ≤ 68719476720 := by omega
        clear hc1
        by_cases hov : 4294967295 < n * base + d
        · have hov' : (4294967295 : Int) < (n : Int) * (base : Int) + (d : Int) := by have := HC.out; omega
          go_wp2_with fail
          refine (done_any _ _ _ _ h0 h1).mono ?_
          rintro e w' ⟨rfl, n1, rfl⟩
          go_wp2_with fail
          refine (digit_some base d b k s (wr.drewN n1) h0 h1 hf hlt hm HB.out HD.out).mono ?_
          rintro e w' ⟨rfl, n2, rfl⟩
          go_wp2
          go_ret3
          refine ⟨?_, ?_⟩
          · have e : horner base 0 (s.data.toList.drop at_) = none := by
              rw [HH.out, drop_cons s k hlt, horner, HD.out]
              simp only [hov, if_true]
            rw [valEnd, e]; rfl
          · exact (by repeat (first | exact hbel | refine below_drewN ?_ _ | refine Below.setCell (p := ⟨b, 1, none⟩) ?_ (Nat.le_refl b) _))
        · have hov' : ¬ (4294967295 : Int) < (n : Int) * (base : Int) + (d : Int) := by have := HC.out; omega
          go_wp2_with fail
          refine (done_any _ _ _ _ h0 h1).mono ?_
          rintro e w' ⟨rfl, n1, rfl⟩
          go_wp2_with fail
          refine (digit_some base d b k s (wr.drewN n1) h0 h1 hf hlt hm HB.out HD.out).mono ?_
          rintro e w' ⟨rfl, n2, rfl⟩
          go_wp2
          go_roundw
          case rel =>
            refine ⟨k + 1, n * base + d, by omega, by omega, by omega, ?_, ?_, rfl, ?_, ?_, ?_⟩
            · have := HC.out
              rw [Int.natCast_add, ← HC.out]
            · rw [show ((k + 1 - at_ : Nat) : Int) = ((k - at_ : Nat) : Int) + 1 from by omega]
            · refine Lib.hid ?_
              rw [HH.out, drop_cons s k hlt, horner, HD.out]
              simp only [hov, if_false]
            · exact (((hBr.drewN n1).set_ 1 _).drewN n2)
            · exact (by repeat (first | exact hbel | refine below_drewN ?_ _ | refine Below.setCell (p := ⟨b, 1, none⟩) ?_ (Nat.le_refl b) _))
          case measure => simp [intOf]; omega
    · have hks : k = s.size := by omega
      have HK := Lib.hid hks
      have h1' : wr.cell? ⟨b, 1, none⟩ = some (.int .i64 s.size) := by rw [h1, HK.out]
      have ht : ((k : Int) == (s.size : Int)) = true := beq_iff_eq.2 (by omega)
      clear hks h1'
      go_wp2_with fail
      refine (done_any _ _ _ _ h0 h1).mono ?_
      rintro e w' ⟨rfl, n1, rfl⟩
      go_wp2
      go_ret3
      refine ⟨?_, (by repeat (first | exact hbel | refine below_drewN ?_ _ | refine Below.setCell (p := ⟨b, 1, none⟩) ?_ (Nat.le_refl b) _))⟩
      have e : horner base 0 (s.data.toList.drop at_) = some n := by
        rw [HH.out, List.drop_of_length_le (by have := HK.out; show s.size ≤ k; omega)]; rfl
      have hk' := HK.out
      rw [valEnd, e]
      show Ending.returned (.tuple #[.int .u64 _, .int .i64 _, .bool _]) = .returned (.tuple #[.int .u64 _, .int .i64 _, .bool _])
      have e2 : decide (0 < k - at_) = decide (at_ < s.size) := by
        rw [Bool.eq_iff_iff, decide_eq_true_iff, decide_eq_true_iff]; omega
      rw [e2, hk']

def pu32 (l : List UInt8) : Option Nat :=
  if Lib.hasPrefix l [48, 120] = true then
    (if 10 < l.length ∨ l.length ≤ 2 then none else horner 16 0 (l.drop 2))
  else if canon l = true then horner 10 0 l else none
def pu32v (l : List UInt8) : Value := match pu32 l with
  | none => .tuple #[.int .u32 0, .bool false]
  | some v => .tuple #[.int .u32 v, .bool true]

set_option maxHeartbeats 400000 in
theorem decimal_any (s : ByteArray) (w : World) :
    Calls Tryd.prog 24 #[.string s] w
      fun e w' => e = .returned (.pointer (some ⟨w.heap.size, 0, none⟩)) ∧ w' = w.alloc (.cells #[.string s, .int .i64 0, .int .i64 10] 48) := by
  go_enter Tryd.func24, Tryd.ntmps24
  go_wp2
  go_ret
  exact ⟨rfl, rfl⟩

theorem horner_le (base : Nat) : ∀ (l : List UInt8) (acc v : Nat), acc ≤ 4294967295 → horner base acc l = some v → v ≤ 4294967295
  | [], acc, v, h, e => by rw [horner] at e; injection e with e; omega
  | c :: l, acc, v, h, e => by
    rw [horner] at e
    rcases hd : dgt base c with _ | d
    · rw [hd] at e; cases e
    · rw [hd] at e
      simp only at e
      split at e
      · cases e
      · exact horner_le base l _ v (by omega) e
theorem prefix_len {l : List UInt8} {a b : UInt8} (h : Lib.hasPrefix l [a, b] = true) : 2 ≤ l.length := by
  unfold Lib.hasPrefix at h
  have := (List.isPrefixOf_iff_prefix.1 h).length_le
  simpa using this

set_option maxHeartbeats 1000000 in
theorem parseUint32_any (s : ByteArray) (w : World) (hm : s.size ≤ 1048576) :
    Calls Tryd.prog 16 #[.string s] w fun e w' => e = .returned (pu32v s.data.toList) ∧ Below w.heap.size w w' := by
  have hB0 := Blk.new w 48 #[.string s, .int .i64 0, .int .i64 10]
  have hbel : Below w.heap.size w (w.alloc (.cells #[.string s, .int .i64 0, .int .i64 10] 48)) := (Below.refl _ _).alloc (Nat.le_refl _) _
  have BEL := Lib.hid hbel
  clear hbel
  rcases hp : Lib.hasPrefix s.data.toList [48, 120] with _ | _
  · have HP := Lib.hid hp
    clear hp
    rcases hc : canon s.data.toList with _ | _
    · have HC := Lib.hid hc
      clear hc
      go_enter Tryd.func16, Tryd.ntmps16
      go_wp2_with fail
      refine (decimal_any _ _).mono ?_
      rintro e w' ⟨rfl, rfl⟩
      go_wp2_with fail
      refine (accept_any w.heap.size s _ _ false (hB0.cell 0) (hB0.cell 1) (hB0.frozen 1) (by decide) HP.out).mono ?_
      rintro e w' ⟨rfl, n1, rfl⟩
      go_wp2_with fail
      refine (canonical_any s _ (by unfold maxLen; omega)).mono ?_
      rintro e w' ⟨rfl, rfl⟩
      have hc := HC.out
      go_wp2
      go_ret2
      exact ⟨by rw [pu32v, pu32, if_neg (by rw [HP.out]; decide), if_neg (by rw [HC.out]; decide)]; rfl, below_drewN BEL.out _⟩
    · have HC := Lib.hid hc
      clear hc
      go_enter Tryd.func16, Tryd.ntmps16
      go_wp2_with fail
      refine (decimal_any _ _).mono ?_
      rintro e w' ⟨rfl, rfl⟩
      go_wp2_with fail
      refine (accept_any w.heap.size s _ _ false (hB0.cell 0) (hB0.cell 1) (hB0.frozen 1) (by decide) HP.out).mono ?_
      rintro e w' ⟨rfl, n1, rfl⟩
      go_wp2_with fail
      refine (canonical_any s _ (by unfold maxLen; omega)).mono ?_
      rintro e w' ⟨rfl, rfl⟩
      have hc := HC.out
      go_wp2_with fail
      refine (value_any 10 w.heap.size 0 s ((w.alloc (.cells #[.string s, .int .i64 0, .int .i64 10] 48)).drewN n1) (hB0.drewN n1) (Nat.zero_le _) hm (.inl rfl)).mono ?_
      rintro e w' ⟨rfl, hb2⟩
      clear hc
      have hpos : 0 < s.size := by
        rcases Nat.eq_zero_or_pos s.size with h | h
        · have h' : s.data.toList = [] := List.eq_nil_of_length_eq_zero h
          have := HC.out
          rw [h'] at this; cases this
        · exact h
      have hd : decide (0 < s.size) = true := by simpa using hpos
      rcases hv : horner 10 0 s.data.toList with _ | v
      · have HV := Lib.hid hv
        clear hv
        have he : valEnd 10 s 0 = .tuple #[.int .u64 0, .int .i64 0, .bool false] := by rw [valEnd, List.drop_zero, HV.out]
        rw [he]
        clear he
        go_wp2
        go_ret2
        exact ⟨by rw [pu32v, pu32, if_neg (by rw [HP.out]; decide), if_pos HC.out, HV.out]; rfl, (below_drewN BEL.out n1).trans hb2⟩
      · have hvl := horner_le 10 _ 0 v (by omega) hv
        have HV := Lib.hid hv
        clear hv
        have he : valEnd 10 s 0 = .tuple #[.int .u64 v, .int .i64 s.size, .bool true] := by rw [valEnd, List.drop_zero, HV.out]; simp only [hd]; rfl
        rw [he]
        clear he hd
        go_wp2
        go_ret2
        exact ⟨by rw [pu32v, pu32, if_neg (by rw [HP.out]; decide), if_pos HC.out, HV.out]; rfl, (below_drewN BEL.out n1).trans hb2⟩
  · have hlen : 2 ≤ s.size := prefix_len hp
    have HP := Lib.hid hp
    clear hp
    by_cases hgt : 10 < s.size
    · go_enter Tryd.func16, Tryd.ntmps16
      go_wp2_with fail
      refine (decimal_any _ _).mono ?_
      rintro e w' ⟨rfl, rfl⟩
      go_wp2_with fail
      refine (accept_any w.heap.size s _ _ true (hB0.cell 0) (hB0.cell 1) (hB0.frozen 1) (by decide) HP.out).mono ?_
      rintro e w' ⟨rfl, n1, rfl⟩
      go_wp2_with fail
      go_ret2
      exact ⟨by rw [pu32v, pu32, if_pos HP.out, if_pos (Or.inl (show 10 < s.data.toList.length from hgt))]; rfl, (Below.setCell (p := ⟨w.heap.size, 2, none⟩) (below_drewN ((Below.refl _ _).alloc (Nat.le_refl _) _) n1) (Nat.le_refl _) _)⟩
    · go_enter Tryd.func16, Tryd.ntmps16
      go_wp2_with fail
      refine (decimal_any _ _).mono ?_
      rintro e w' ⟨rfl, rfl⟩
      go_wp2_with fail
      refine (accept_any w.heap.size s _ _ true (hB0.cell 0) (hB0.cell 1) (hB0.frozen 1) (by decide) HP.out).mono ?_
      rintro e w' ⟨rfl, n1, rfl⟩
      go_wp2_with fail
      refine (value_any 16 w.heap.size 2 s (((w.alloc (.cells #[.string s, .int .i64 2, .int .i64 10] 48)).drewN n1).setCell ⟨w.heap.size, 2, none⟩ (.int .i64 16))
        (((Blk.new w 48 #[.string s, .int .i64 2, .int .i64 10]).drewN n1).set_ 2 _) hlen hm (.inr rfl)).mono ?_
      rintro e w' ⟨rfl, hb2⟩
      by_cases h2 : s.size ≤ 2
      · have hs2 : s.size = 2 := by omega
        have HS := Lib.hid hs2
        clear hs2
        have he : valEnd 16 s 2 = .tuple #[.int .u64 0, .int .i64 0, .bool false] := by
          rw [valEnd, List.drop_of_length_le (by have := HS.out; show s.size ≤ 2; omega)]
          simp only [horner, HS.out]; rfl
        rw [he]
        clear he
        go_wp2
        go_ret2
        exact ⟨by rw [pu32v, pu32, if_pos HP.out, if_pos (Or.inr (show s.data.toList.length ≤ 2 from h2))]; rfl, Below.trans (Below.setCell (p := ⟨w.heap.size, 2, none⟩) (below_drewN ((Below.refl _ _).alloc (Nat.le_refl _) _) n1) (Nat.le_refl _) _) hb2⟩
      · have hd : decide (2 < s.size) = true := by simpa using h2
        have hno : ¬ (10 < s.data.toList.length ∨ s.data.toList.length ≤ 2) := by
          intro h
          rcases h with h | h
          · exact hgt h
          · exact h2 h
        have HN := Lib.hid hno
        clear hno
        rcases hv : horner 16 0 (s.data.toList.drop 2) with _ | v
        · have HV := Lib.hid hv
          clear hv
          have he : valEnd 16 s 2 = .tuple #[.int .u64 0, .int .i64 0, .bool false] := by rw [valEnd, HV.out]
          rw [he]
          clear he
          go_wp2
          go_ret2
          exact ⟨by rw [pu32v, pu32, if_pos HP.out, if_neg HN.out, HV.out]; rfl, Below.trans (Below.setCell (p := ⟨w.heap.size, 2, none⟩) (below_drewN ((Below.refl _ _).alloc (Nat.le_refl _) _) n1) (Nat.le_refl _) _) hb2⟩
        · have hvl := horner_le 16 _ 0 v (by omega) hv
          have HV := Lib.hid hv
          clear hv
          have he : valEnd 16 s 2 = .tuple #[.int .u64 v, .int .i64 ((s.size - 2 : Nat) : Int), .bool true] := by rw [valEnd, HV.out]; simp only [hd]
          rw [he]
          clear he hd
          go_wp2
          go_ret2
          exact ⟨by rw [pu32v, pu32, if_pos HP.out, if_neg HN.out, HV.out]; rfl, Below.trans (Below.setCell (p := ⟨w.heap.size, 2, none⟩) (below_drewN ((Below.refl _ _).alloc (Nat.le_refl _) _) n1) (Nat.le_refl _) _) hb2⟩

end Go.Proofs.YtnddfmbgbgiljaaDoor
