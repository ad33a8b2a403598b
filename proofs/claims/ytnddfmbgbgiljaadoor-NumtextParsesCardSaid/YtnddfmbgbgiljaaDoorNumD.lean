/- The walk of numtext.ParseInt. No condition but the length of the text. -/
import Derived.Test.YtnddfmbgbgiljaaDoorNumC
namespace Go.Proofs.YtnddfmbgbgiljaaDoor
open Go.RowKit

def pintL (neg : Bool) (ds : List UInt8) : Option Int :=
  if 9 < ds.length ∨ canon ds = false then none else match horner 10 0 ds with
    | none => none
    | some v => if neg = true ∧ v = 0 then none else some (if neg = true then -(v : Int) else v)
def pint (l : List UInt8) : Option Int := if Lib.hasPrefix l [45] = true then pintL true (l.drop 1) else pintL false l
def pintV : Option Int → Value
  | none => .tuple #[.int .i64 0, .bool false]
  | some v => .tuple #[.int .i64 v, .bool true]
theorem canon_pos {l : List UInt8} (h : canon l = true) : 0 < l.length := by
  match l, h with
  | _ :: r, _ => exact Nat.succ_pos r.length

set_option maxHeartbeats 1000000 in
theorem parseInt_plus (s : ByteArray) (w : World) (hm : s.size ≤ 1048576) (hp : Lib.hasPrefix s.data.toList [45] = false) :
    Calls Tryd.prog 14 #[.string s] w fun e w' => e = .returned (pintV (pintL false s.data.toList)) ∧ Below w.heap.size w w' := by
  have hB0 := Blk.new w 48 #[.string s, .int .i64 0, .int .i64 10]
  have BEL := Lib.hid ((Below.refl _ _).alloc (Nat.le_refl _) _ : Below w.heap.size w (w.alloc (.cells #[.string s, .int .i64 0, .int .i64 10] 48)))
  have HP := Lib.hid hp
  clear hp
  have he : s.extract 0 s.size = s := by simp
  have HS := Lib.hid (show s.data.toList.length = s.size from rfl)
  by_cases hgt : 9 < s.size
  · have HV : Hid (pintL false s.data.toList = none) := Lib.hid (by rw [pintL, if_pos (.inl (by rw [HS.out]; exact hgt))])
    go_enter Tryd.func14, Tryd.ntmps14
    go_wp2_with fail
    refine (decimal_any _ _).mono ?_
    rintro e w' ⟨rfl, rfl⟩
    go_wp2_with fail
    refine (accept_any w.heap.size s _ _ false (hB0.cell 0) (hB0.cell 1) (hB0.frozen 1) (by decide) HP.out).mono ?_
    rintro e w' ⟨rfl, n1, rfl⟩
    go_wp2
    go_ret2
    exact ⟨by rw [HV.out]; rfl, below_drewN BEL.out _⟩
  · rcases hc : canon s.data.toList with _ | _
    · have HC := Lib.hid hc
      have HV : Hid (pintL false s.data.toList = none) := Lib.hid (by rw [pintL, if_pos (.inr hc)])
      clear hc
      go_enter Tryd.func14, Tryd.ntmps14
      go_wp2_with fail
      refine (decimal_any _ _).mono ?_
      rintro e w' ⟨rfl, rfl⟩
      go_wp2_with fail
      refine (accept_any w.heap.size s _ _ false (hB0.cell 0) (hB0.cell 1) (hB0.frozen 1) (by decide) HP.out).mono ?_
      rintro e w' ⟨rfl, n1, rfl⟩
      go_wp2_with fail
      refine (canonical_any s _ (by unfold maxLen; omega)).mono ?_
      rintro e w' ⟨rfl, rfl⟩
      have hc := HC.out
      go_wp2
      go_ret2
      exact ⟨by rw [HV.out]; rfl, below_drewN BEL.out _⟩
    · have HC := Lib.hid hc
      have hpos : 0 < s.size := canon_pos hc
      have hd : decide (0 < s.size) = true := by simpa using hpos
      clear hc
      go_enter Tryd.func14, Tryd.ntmps14
      go_wp2_with fail
      refine (decimal_any _ _).mono ?_
      rintro e w' ⟨rfl, rfl⟩
      go_wp2_with fail
      refine (accept_any w.heap.size s _ _ false (hB0.cell 0) (hB0.cell 1) (hB0.frozen 1) (by decide) HP.out).mono ?_
      rintro e w' ⟨rfl, n1, rfl⟩
      go_wp2_with fail
      refine (canonical_any s _ (by unfold maxLen; omega)).mono ?_
      rintro e w' ⟨rfl, rfl⟩
      have hc := HC.out
      go_wp2_with fail
      refine (value_any 10 w.heap.size 0 s ((w.alloc (.cells #[.string s, .int .i64 0, .int .i64 10] 48)).drewN n1) (hB0.drewN n1) (Nat.zero_le _) hm (.inl rfl)).mono ?_
      rintro e w' ⟨rfl, hb2⟩
      clear hc
      rcases hv : horner 10 0 s.data.toList with _ | v
      · have HV : Hid (pintL false s.data.toList = none) := Lib.hid (by rw [pintL, hv]; split <;> rfl)
        have he2 : valEnd 10 s 0 = .tuple #[.int .u64 0, .int .i64 0, .bool false] := by rw [valEnd, List.drop_zero, hv]
        clear hv
        rw [he2]
        clear he2
        go_wp2
        go_ret2
        exact ⟨by rw [HV.out]; rfl, (below_drewN BEL.out n1).trans hb2⟩
      · have hvl := horner_le 10 _ 0 v (by omega) hv
        have HV : Hid (pintL false s.data.toList = some (v : Int)) := Lib.hid (by rw [pintL, hv, if_neg (by rw [HC.out, HS.out]; intro h; rcases h with h | h; exact hgt h; exact absurd h (by decide))]; simp only; rw [if_neg (by intro h; exact absurd h.1 (by decide)), if_neg (by decide)])
        have he2 : valEnd 10 s 0 = .tuple #[.int .u64 v, .int .i64 s.size, .bool true] := by rw [valEnd, List.drop_zero, hv]; simp only [hd]; rfl
        clear hv
        rw [he2]
        clear he2 hd
        go_wp2
        go_ret2
        exact ⟨by rw [HV.out]; rfl, (below_drewN BEL.out n1).trans hb2⟩

set_option maxHeartbeats 1000000 in
theorem parseInt_minus (s : ByteArray) (w : World) (hm : s.size ≤ 1048576) (hp : Lib.hasPrefix s.data.toList [45] = true) (ds : List UInt8) (hds : s.data.toList.drop 1 = ds) :
    Calls Tryd.prog 14 #[.string s] w fun e w' => e = .returned (pintV (pintL true ds)) ∧ Below w.heap.size w w' := by
  have hB0 := Blk.new w 48 #[.string s, .int .i64 0, .int .i64 10]
  have hB1 := Blk.new w 48 #[.string s, .int .i64 1, .int .i64 10]
  have BEL := Lib.hid ((Below.refl _ _).alloc (Nat.le_refl _) _ : Below w.heap.size w (w.alloc (.cells #[.string s, .int .i64 1, .int .i64 10] 48)))
  have hlen : 1 ≤ s.size := by
    unfold Lib.hasPrefix at hp
    have := (List.isPrefixOf_iff_prefix.1 hp).length_le
    simpa using this
  have HP := Lib.hid hp
  clear hp
  have hd1 : (s.extract 1 s.size).data.toList = ds := by
    rw [ByteArray.data_extract, ← hds]
    simp
    exact List.take_of_length_le (by simp)
  have HD := Lib.hid hd1
  clear hd1
  have hsz : (s.extract 1 s.size).size = s.size - 1 := by simp
  have HZ := Lib.hid hsz
  have HS := Lib.hid (show ds.length = s.size - 1 by rw [← hds, List.length_drop]; rfl)
  have HDS := Lib.hid hds
  clear hds
  by_cases hgt : 9 < s.size - 1
  · have HV : Hid (pintL true ds = none) := Lib.hid (by rw [pintL, if_pos (.inl (by rw [HS.out]; exact hgt))])
    go_enter Tryd.func14, Tryd.ntmps14
    go_wp2_with fail
    refine (decimal_any _ _).mono ?_
    rintro e w' ⟨rfl, rfl⟩
    go_wp2_with fail
    refine (accept_any w.heap.size s _ _ true (hB0.cell 0) (hB0.cell 1) (hB0.frozen 1) (by decide) HP.out).mono ?_
    rintro e w' ⟨rfl, n1, rfl⟩
    go_wp2
    go_ret2
    exact ⟨by rw [HV.out]; rfl, below_drewN BEL.out _⟩
  · rcases hc : canon ds with _ | _
    · have HC := Lib.hid hc
      have HV : Hid (pintL true ds = none) := Lib.hid (by rw [pintL, if_pos (.inr hc)])
      clear hc
      go_enter Tryd.func14, Tryd.ntmps14
      go_wp2_with fail
      refine (decimal_any _ _).mono ?_
      rintro e w' ⟨rfl, rfl⟩
      go_wp2_with fail
      refine (accept_any w.heap.size s _ _ true (hB0.cell 0) (hB0.cell 1) (hB0.frozen 1) (by decide) HP.out).mono ?_
      rintro e w' ⟨rfl, n1, rfl⟩
      go_wp2_with fail
      refine (canonical_any (s.extract 1 s.size) _ (by unfold maxLen; omega)).mono ?_
      rintro e w' ⟨rfl, rfl⟩
      rw [HD.out]
      have hc := HC.out
      go_wp2
      go_ret2
      exact ⟨by rw [HV.out]; rfl, below_drewN BEL.out _⟩
    · have HC := Lib.hid hc
      have hpos : 1 < s.size := by
        have := canon_pos hc
        rw [HS.out] at this; omega
      have hd : decide (1 < s.size) = true := by simpa using hpos
      clear hc
      go_enter Tryd.func14, Tryd.ntmps14
      go_wp2_with fail
      refine (decimal_any _ _).mono ?_
      rintro e w' ⟨rfl, rfl⟩
      go_wp2_with fail
      refine (accept_any w.heap.size s _ _ true (hB0.cell 0) (hB0.cell 1) (hB0.frozen 1) (by decide) HP.out).mono ?_
      rintro e w' ⟨rfl, n1, rfl⟩
      go_wp2_with fail
      refine (canonical_any (s.extract 1 s.size) _ (by unfold maxLen; omega)).mono ?_
      rintro e w' ⟨rfl, rfl⟩
      rw [HD.out]
      have hc := HC.out
      go_wp2_with fail
      refine (value_any 10 w.heap.size 1 s ((w.alloc (.cells #[.string s, .int .i64 1, .int .i64 10] 48)).drewN n1) (hB1.drewN n1) hlen hm (.inl rfl)).mono ?_
      rintro e w' ⟨rfl, hb2⟩
      clear hc
      rcases hv : horner 10 0 ds with _ | v
      · have HV : Hid (pintL true ds = none) := Lib.hid (by rw [pintL, hv]; split <;> rfl)
        have he2 : valEnd 10 s 1 = .tuple #[.int .u64 0, .int .i64 0, .bool false] := by rw [valEnd, HDS.out, hv]
        clear hv
        rw [he2]
        clear he2
        go_wp2
        go_ret2
        exact ⟨by rw [HV.out]; rfl, (below_drewN BEL.out n1).trans hb2⟩
      · have hvl := horner_le 10 _ 0 v (by omega) hv
        have HV : Hid (pintL true ds = if v = 0 then none else some (-(v : Int))) := Lib.hid (by rw [pintL, hv, if_neg (by rw [HC.out, HS.out]; intro h; rcases h with h | h; exact hgt h; exact absurd h (by decide))]; simp only [true_and, if_true])
        have he2 : valEnd 10 s 1 = .tuple #[.int .u64 v, .int .i64 ((s.size - 1 : Nat) : Int), .bool true] := by rw [valEnd, HDS.out, hv]; simp only [hd]
        clear hv
        rw [he2]
        clear he2 hd
        by_cases hv0 : v = 0
        · subst hv0
          go_wp2
          go_ret2
          exact ⟨by rw [HV.out]; rfl, (below_drewN BEL.out n1).trans hb2⟩
        · have hv1 : ((v : Int) == 0) = false := beq_eq_false_iff_ne.2 (by omega)
          have HV0 := Lib.hid hv0
          clear hv0
          go_wp2
          go_ret2
          exact ⟨by rw [HV.out, if_neg HV0.out]; rfl, (below_drewN BEL.out n1).trans hb2⟩

theorem parseInt_any (s : ByteArray) (w : World) (hm : s.size ≤ 1048576) :
    Calls Tryd.prog 14 #[.string s] w fun e w' => e = .returned (pintV (pint s.data.toList)) ∧ Below w.heap.size w w' := by
  rcases hp : Lib.hasPrefix s.data.toList [45] with _ | _
  · rw [pint, if_neg (by rw [hp]; decide)]
    exact parseInt_plus s w hm hp
  · rw [pint, if_pos hp]
    exact parseInt_minus s w hm hp _ rfl

end Go.Proofs.YtnddfmbgbgiljaaDoor
