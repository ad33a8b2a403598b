/- The walk of the reference's DecodeHex. No condition but the length of the text. -/
import Derived.Test.YtnddfmbgbgiljaaDoorNumE
import Derived.Test.YtnddfmbgbgiljaaDoorBytes
import Derived.IntWalk
import Derived.Deep.RegionLaw
import Derived.Deep.AppendLies
namespace Go.Proofs.YtnddfmbgbgiljaaDoor
open Go.RowKit

/-- two hexadecimal digits a byte -/
def hexD : List UInt8 → List UInt8 → Option (List UInt8)
  | acc, [] => some acc
  | _, [_] => none
  | acc, a :: b :: r => match dgt 16 a, dgt 16 b with
    | some x, some y => hexD (acc ++ [UInt8.ofNat (16 * x + y)]) r
    | _, _ => none
def dhOk (l : List UInt8) : Bool := (hexD [] l).isSome
def dhOut (l : List UInt8) : List UInt8 := (hexD [] l).getD []
def DhPost (w : World) (l : List UInt8) (e : Ending) (w' : World) : Prop :=
  ∃ A c, e = .returned (.tuple #[.slice A (dhOut l).length c, .bool (dhOk l)]) ∧ w'.ownsRow w.heap.size 5 1 (.slice A (dhOut l).length c) (dhOut l).length (byteVals (dhOut l)) ∧ Below w.heap.size w w'
theorem hexD_odd : ∀ (n : Nat) (acc l : List UInt8), l.length ≤ n → l.length % 2 = 1 → hexD acc l = none
  | _, _, [], _, h => by simp at h
  | _, _, [_], _, _ => rfl
  | n + 2, acc, a :: b :: r, hn, h => by
    rw [hexD]
    simp only [List.length_cons] at hn h
    split
    · exact hexD_odd n _ r (by omega) (by omega)
    · rfl
  | 0, _, _ :: _ :: _, hn, _ => by simp at hn
  | 1, _, _ :: _ :: _, hn, _ => by simp at hn
theorem dh_fail {w w' : World} {l : List UInt8} (h : hexD [] l = none) (hb : Below w.heap.size w w') : DhPost w l (.returned (.tuple #[.slice none 0 0, .bool false])) w' := by
  have h1 : dhOut l = [] := by rw [dhOut, h]; rfl
  have h2 : dhOk l = false := by rw [dhOk, h]; rfl
  refine ⟨none, 0, by rw [h1, h2]; rfl, ?_, hb⟩
  rw [h1]
  exact World.ownsRow_nil w' w.heap.size 5 1
theorem dh_done {w w' : World} {l acc : List UInt8} {A : Option Addr} {c : Nat} (h : hexD [] l = some acc) (ho : w'.ownsRow w.heap.size 5 1 (.slice A acc.length c) acc.length (byteVals acc)) (hb : Below w.heap.size w w') :
    DhPost w l (.returned (.tuple #[.slice A acc.length c, .bool true])) w' := by
  have h1 : dhOut l = acc := by rw [dhOut, h]; rfl
  have h2 : dhOk l = true := by rw [dhOk, h]; rfl
  exact ⟨A, c, by rw [h1, h2], by rw [h1]; exact ho, hb⟩
theorem rdig_still (c : UInt8) (w : World) : Calls Tryd.prog 29 #[.int .u8 c.toNat] w fun e w' => e = .returned (.int .i64 (rdig c)) ∧ w' = w :=
  (rdigit_any c w).mono fun _ _ h => ⟨h.1, h.2.symm⟩

set_option maxHeartbeats 2000000 in
theorem rdecodeHex_any (s : ByteArray) (w : World) (hm : s.size ≤ 1048576) :
    Calls Tryd.prog 19 #[.string s] w (DhPost w s.data.toList) := by
  have HS := Lib.hid (show s.data.toList.length = s.size from rfl)
  by_cases ho : s.size % 2 = 1
  · have HN := Lib.hid (hexD_odd s.size [] s.data.toList (by rw [HS.out]; omega) (by rw [HS.out]; exact ho))
    have hne : (((s.size : Int) % 2) != 0) = true := by rw [bne_iff_ne]; omega
    go_enter Tryd.func19, Tryd.ntmps19
    go_wp2
    go_ret2
    exact dh_fail HN.out (Below.refl _ _)
  · have hne : (((s.size : Int) % 2) != 0) = false := by rw [bne_eq_false_iff_eq]; omega
    obtain ⟨i0, hi, hz0, hz1, hz2⟩ := info_parts Tryd.infoByte
    go_enter Tryd.func19, Tryd.ntmps19
    go_wp2
    go_loopw [4, 5] (fun o i wr => ∃ (k : Nat) (acc : List UInt8) (A : Option Addr) (c : Nat), k ≤ s.size ∧ Hid (k % 2 = 0) ∧ i = .int .i64 k ∧ o = .slice A acc.length c ∧ acc.length ≤ k ∧
        Hid (hexD [] s.data.toList = hexD acc (s.data.toList.drop k)) ∧ wr.ownsRow w.heap.size 5 1 (.slice A acc.length c) acc.length (byteVals acc) ∧ Below w.heap.size w wr)
      (fun _ i _ => s.size - (intOf i).toNat)
    case atStart => exact ⟨0, [], none, 0, Nat.zero_le _, Lib.hid rfl, rfl, rfl, Nat.le_refl _, Lib.hid rfl, World.ownsRow_nil w w.heap.size _ 1, Below.refl _ _⟩
    case round =>
      obtain ⟨k, acc, A, c, hk, HP, rfl, rfl, hl, HH, hown, hbel⟩ := hrel
      by_cases hlt : k + 1 < s.size
      · have HD : Hid (s.data.toList.drop k = s[k] :: s[k + 1] :: s.data.toList.drop (k + 1 + 1)) := Lib.hid (by rw [drop_cons s k (by omega), drop_cons s (k + 1) hlt])
        by_cases hda : rdig s[k] < 0
        · have HN : Hid (hexD [] s.data.toList = none) := Lib.hid (by rw [HH.out, HD.out, hexD, dgt16, if_pos hda])
          go_wp2_with fail
          refine (rdigit_any _ _).mono ?_
          rintro e w' ⟨rfl, rfl⟩
          go_wp2
          go_ret2
          exact dh_fail HN.out hbel
        · have hda' : 0 ≤ rdig s[k] := by omega
          by_cases hdb : rdig s[k + 1] < 0
          · have HN : Hid (hexD [] s.data.toList = none) := Lib.hid (by rw [HH.out, HD.out, hexD, dgt16, if_neg hda, dgt16 s[k + 1], if_pos hdb])
            go_wp2_with fail
            refine (rdigit_any _ _).mono ?_
            rintro e w' ⟨rfl, rfl⟩
            go_wp2_with fail
            refine (rdigit_any _ _).mono ?_
            rintro e w' ⟨rfl, rfl⟩
            go_wp2
            go_ret2
            exact dh_fail HN.out hbel
          · have hdb' : 0 ≤ rdig s[k + 1] := by omega
            have hra := rdig_lt s[k]
            have hrb := rdig_lt s[k + 1]
            go_wp2_with fail
            refine (rdigit_any _ _).mono ?_
            rintro e w' ⟨rfl, rfl⟩
            go_wp2_with fail
            refine (rdigit_any _ _).mono ?_
            rintro e w' ⟨rfl, rfl⟩
            go_wp2
            have HO := Lib.hid (And.intro hown hbel)
            have hx8 : 0 ≤ 16 * rdig s[k] + rdig s[k + 1] ∧ 16 * rdig s[k] + rdig s[k + 1] < 256 := by omega
            have HX8 := Lib.hid hx8
            have hb1 : acc.length + 1 ≤ maxLen := by unfold maxLen; omega
            have hb2 : (acc.length + 1) * 1 ≤ 140737488355328 := by omega
            have hb3 : w.heap.size ≤ ((wr.alloc (.cells #[.int .u8 (16 * rdig s[k] + rdig s[k + 1])] 5)).drew).heap.size := by have := hbel.size; simp; omega
            have HB1 := Lib.hid hb1
            have HB2 := Lib.hid hb2
            have HB3 := Lib.hid hb3
            have HO1 : Hid (((wr.alloc (.cells #[.int .u8 (16 * rdig s[k] + rdig s[k + 1])] 5)).drew).ownsRow w.heap.size 5 1 (.slice A acc.length c) acc.length (byteVals acc)) := Lib.hid (hown.alloc (.cells #[.int .u8 (16 * rdig s[k] + rdig s[k + 1])] 5))
            have HN1 : Hid (∀ j u, [Value.int .u8 (16 * rdig s[k] + rdig s[k + 1])][j]? = some u → ((wr.alloc (.cells #[.int .u8 (16 * rdig s[k] + rdig s[k + 1])] 5)).drew).cell? ((⟨wr.heap.size, 0, none⟩ : Addr).add j) = some u) := Lib.hid (one_news wr _ rfl _ _)
            have hp1 : 0 ≤ (k : Int) + 1 := by omega
            have hp2 : (k : Int) + 1 < (s.size : Int) := by omega
            have hp3 : ((k : Int) + 1).toNat = k + 1 := by omega
            have hw1 : IntKind.i64.wrap ((k : Int) + 1) = (k : Int) + 1 := by exact IntWalk.i64_in _ (by omega)
            have hw2 : IntKind.i64.wrap (16 * rdig s[k]) = 16 * rdig s[k] := by exact IntWalk.i64_in _ (by omega)
            have hw3 : IntKind.i64.wrap (16 * rdig s[k] + rdig s[k + 1]) = 16 * rdig s[k] + rdig s[k + 1] := by exact IntWalk.i64_in _ (by omega)
            have hw4 : IntKind.u8.wrap (16 * rdig s[k] + rdig s[k + 1]) = 16 * rdig s[k] + rdig s[k + 1] := by exact IntWalk.u8_in _ (by omega)
            clear hown hbel hx8 hb1 hb2 hb3
            go_region_law (first
              | (go_simp; go_at_call 29; refine (rdigit_any _ _).mono ?_; rintro e w' ⟨rfl, rfl⟩)
              | (refine step_append_lies _ (by rfl) (.tmp 30) (.tmp 43) 31 (by rfl) w.heap.size 5 i0 (.int .u8 0) 1 1 Tryd.underlying31 hi hz0 hz1 hz2 rfl (by decide) (.slice A acc.length c) acc.length (byteVals acc) (by rfl) HO1.out ⟨wr.heap.size, 0, none⟩ 1 1 [.int .u8 (16 * rdig s[k] + rdig s[k + 1])] (by rfl) rfl HN1.out ?_ (by decide) HB1.out HB2.out HB3.out _ rfl ?_; (intro u hu; simp at hu; subst hu; rfl); intro g cap w2 h1 h2 h3 h4; have HW := Lib.hid (And.intro h1 h2); clear h1 h2 h3 h4))
            all_goals
              try clear hw1
              try clear hw2
              try clear hw3
              try clear hw4
              try clear hp1
              try clear hp2
              try clear hp3
              have hbel2 : Below w.heap.size w w2 := by
                have hA : Below w.heap.size w ((wr.alloc (.cells #[.int .u8 (16 * rdig s[k] + rdig s[k + 1])] 5)).drew) := (below_alloc HO.out.2 _).drew
                exact hA.grown HW.out.2 HB3.out fun k hk => (HO.out.1.lt k hk).1
              have HB := Lib.hid hbel2
              have hbv : byteVals acc ++ [Value.int .u8 (16 * rdig s[k] + rdig s[k + 1])] = byteVals (acc ++ [UInt8.ofNat (16 * (rdig s[k]).toNat + (rdig s[k + 1]).toNat)]) := by
                rw [byteVals_snoc]
                congr 3
                have := HX8.out
                simp
                omega
              have HBV := Lib.hid hbv
              have HH2 : Hid (hexD [] s.data.toList = hexD (acc ++ [UInt8.ofNat (16 * (rdig s[k]).toNat + (rdig s[k + 1]).toNat)]) (s.data.toList.drop (k + 2))) := Lib.hid (by
                rw [HH.out, HD.out, hexD, dgt16, if_neg (by omega), dgt16 s[k + 1], if_neg (by omega)])
              have HL1 : Hid ((acc ++ [UInt8.ofNat (16 * (rdig s[k]).toNat + (rdig s[k + 1]).toNat)]).length = acc.length + 1) := Lib.hid (by simp)
              have HP2 := HP.out
              clear hbel2 hbv
              go_wp2
              go_roundw
              case rel =>
                refine ⟨k + 2, acc ++ [UInt8.ofNat (16 * (rdig s[k]).toNat + (rdig s[k + 1]).toNat)], some ⟨g, 0, none⟩, cap, by omega, Lib.hid (by omega), by go_num, by rw [HL1.out], by rw [HL1.out]; omega, HH2, ?_, HB.out⟩
                rw [HL1.out, ← HBV.out]
                exact HW.out.1
              case measure => simp [intOf]; omega
      · have hks : s.size ≤ k := by have := HP.out; omega
        have HN : Hid (hexD [] s.data.toList = some acc) := Lib.hid (by rw [HH.out, List.drop_of_length_le (by rw [HS.out]; exact hks)]; rfl)
        clear hks
        go_wp2
        go_ret2
        exact dh_done HN.out hown hbel

end Go.Proofs.YtnddfmbgbgiljaaDoor
