/- The walk of numtext.DecodeHex. No condition but the length of the text. -/
import Derived.Test.YtnddfmbgbgiljaaDoorNumF
namespace Go.Proofs.YtnddfmbgbgiljaaDoor
open Go.RowKit

theorem own_weaken {w : World} {b b' : Nat} {e : TypeId} {size : Nat} {v : Value} {n : Nat} {xs : List Value} (hb : b' ≤ b) (h : w.ownsRow b e size v n xs) : w.ownsRow b' e size v n xs := by
  refine ⟨h.1, ?_⟩
  rcases h.2 with hn | ⟨g, cap, cur, hv, hg, rest⟩
  · exact .inl hn
  · exact .inr ⟨g, cap, cur, hv, Nat.le_trans hb hg, rest⟩

theorem own_set {w : World} {base : Nat} {e : TypeId} {size : Nat} {v : Value} {n : Nat} {xs : List Value} (h : w.ownsRow base e size v n xs) {p : Addr} (hp : v.ownBlock ≠ some p.block) (u : Value) : (w.setCell p u).ownsRow base e size v n xs := by
  refine h.kept (row := some p.block) ⟨rfl, rfl, rfl, by simp [World.setCell], fun k _ hk => Below.heap_setCell w p u k (fun e => hk (by rw [e]))⟩ (.inr hp)
theorem or_eq (x y : Nat) (hx : x < 16) (hy : y < 16) : bits BinOp.or IntKind.i64 ((x : Int) * 16) (y : Int) = ((16 * x + y : Nat) : Int) := by
  have h : ∀ (x : Fin 16) (y : Fin 16), bits BinOp.or IntKind.i64 ((x.1 : Int) * 16) (y.1 : Int) = ((16 * x.1 + y.1 : Nat) : Int) := by decide +kernel
  exact h ⟨x, hx⟩ ⟨y, hy⟩

set_option maxHeartbeats 2000000 in
theorem decodeHex_any (s : ByteArray) (w : World) (hm : s.size ≤ 1048576) :
    Calls Tryd.prog 18 #[.string s] w (DhPost w s.data.toList) := by
  have HS := Lib.hid (show s.data.toList.length = s.size from rfl)
  by_cases ho : s.size % 2 = 1
  · have HN := Lib.hid (hexD_odd s.size [] s.data.toList (by rw [HS.out]; omega) (by rw [HS.out]; exact ho))
    have hne : (((s.size : Int) % 2) == 1) = true := by rw [beq_iff_eq]; omega
    go_enter Tryd.func18, Tryd.ntmps18
    go_wp2
    go_ret2
    exact dh_fail HN.out (Below.refl _ _)
  · have hne : (((s.size : Int) % 2) == 1) = false := by rw [beq_eq_false_iff_ne]; omega
    obtain ⟨i0, hi, hz0, hz1, hz2⟩ := info_parts Tryd.infoByte
    have hB0 := Blk.new w 46 #[.string s, .int .i64 0]
    have BEL := Lib.hid ((Below.refl _ _).alloc (Nat.le_refl _) _ : Below w.heap.size w (w.alloc (.cells #[.string s, .int .i64 0] 46)))
    go_enter Tryd.func18, Tryd.ntmps18
    go_wp2
    go_loopw [4, 6, 7, 8, 9] (fun o x1 x2 x3 x4 wr => ∃ (k : Nat) (acc : List UInt8) (A : Option Addr) (c : Nat), k ≤ s.size ∧ Hid (k % 2 = 0) ∧ o = .slice A acc.length c ∧ acc.length ≤ k ∧
        Hid (hexD [] s.data.toList = hexD acc (s.data.toList.drop k)) ∧ wr.ownsRow (w.heap.size + 1) 5 1 (.slice A acc.length c) acc.length (byteVals acc) ∧ Blk wr w.heap.size 46 #[.string s, .int .i64 k] ∧ Below w.heap.size w wr)
      (fun _ _ _ _ _ wr => s.size - (match wr.cell? ⟨w.heap.size, 1, none⟩ with | some v => (intOf v).toNat | none => 0))
    case atStart => exact ⟨0, [], none, 0, Nat.zero_le _, Lib.hid rfl, rfl, Nat.le_refl _, Lib.hid rfl, World.ownsRow_nil _ _ _ 1, hB0, BEL.out⟩
    case round =>
      obtain ⟨k, acc, A, c, hk, HP, rfl, hl, HH, hown, hBr, hbel⟩ := hrel
      have h0 : wr.cell? ⟨w.heap.size, 0, none⟩ = some (.string s) := hBr.cell 0
      have h1 : wr.cell? ⟨w.heap.size, 1, none⟩ = some (.int .i64 k) := hBr.cell 1
      have hf : wr.frozen? ⟨w.heap.size, 1, none⟩ = false := hBr.frozen 1
      by_cases hlt : k + 1 < s.size
      · have hlt0 : k < s.size := by omega
        have HD : Hid (s.data.toList.drop k = s[k] :: s[k + 1] :: s.data.toList.drop (k + 1 + 1)) := Lib.hid (by rw [drop_cons s k hlt0, drop_cons s (k + 1) hlt])
        have ht : ((k : Int) == (s.size : Int)) = false := beq_eq_false_iff_ne.2 (by omega)
        have HW := Lib.hid (And.intro hown (And.intro hBr hbel))
        clear hown hBr hbel
        rcases hda : dgt 16 s[k] with _ | x
        · have HN : Hid (hexD [] s.data.toList = none) := Lib.hid (by rw [HH.out, HD.out, hexD, hda])
          have HA := Lib.hid hda
          clear hda
          go_wp2_with fail
          refine (done_any _ _ _ _ h0 h1).mono ?_
          rintro e w' ⟨rfl, n1, rfl⟩
          go_wp2_with fail
          refine (digit_none 16 w.heap.size k s (wr.drewN n1) h0 h1 hlt0 hm (.inr rfl) HA.out).mono ?_
          rintro e w' ⟨rfl, n2, rfl⟩
          go_wp2_with fail
          refine (digit_none 16 w.heap.size k s (wr.drewN (n1 + n2)) h0 h1 hlt0 hm (.inr rfl) HA.out).mono ?_
          rintro e w' ⟨rfl, n3, rfl⟩
          go_wp2
          go_ret2
          exact dh_fail HN.out (by repeat (first | exact HW.out.2.2 | refine below_drewN ?_ _))
        · have hx16 := dgt_lt hda
          have HA := Lib.hid hda
          have hBx : ∀ n1 n2 : Nat, Blk (((wr.drewN n1).setCell ⟨w.heap.size, 1, none⟩ (.int .i64 ((k : Int) + 1))).drewN n2) w.heap.size 46 #[.string s, .int .i64 ((k + 1 : Nat) : Int)] := fun n1 n2 => ((HW.out.2.1.drewN n1).set_ 1 _).drewN n2
          have HBX := Lib.hid hBx
          clear hda hBx
          rcases hdb : dgt 16 s[k + 1] with _ | y
          · have HN : Hid (hexD [] s.data.toList = none) := Lib.hid (by rw [HH.out, HD.out, hexD, HA.out, hdb])
            have HB := Lib.hid hdb
            clear hdb
            go_wp2_with fail
            refine (done_any _ _ _ _ h0 h1).mono ?_
            rintro e w' ⟨rfl, n1, rfl⟩
            go_wp2_with fail
            refine (digit_some 16 x w.heap.size k s (wr.drewN n1) h0 h1 hf hlt0 hm (.inr rfl) HA.out).mono ?_
            rintro e w' ⟨rfl, n2, rfl⟩
            go_wp2_with fail
            refine (digit_none 16 w.heap.size (k + 1) s (((wr.drewN n1).setCell ⟨w.heap.size, 1, none⟩ (.int .i64 ((k : Int) + 1))).drewN n2) ((HBX.out n1 n2).cell 0) ((HBX.out n1 n2).cell 1) hlt hm (.inr rfl) HB.out).mono ?_
            rintro e w' ⟨rfl, n3, rfl⟩
            go_wp2
            go_ret2
            exact dh_fail HN.out (by repeat (first | exact HW.out.2.2 | refine below_drewN ?_ _ | refine Below.setCell (p := ⟨w.heap.size, 1, none⟩) ?_ (Nat.le_refl _) _))
          · have hy16 := dgt_lt hdb
            have HB := Lib.hid hdb
            clear hdb
            obtain ⟨z, hz⟩ : ∃ z, z = 16 * x + y := ⟨_, rfl⟩
            have hz256 : z < 256 := by omega
            have hbits : bits BinOp.or IntKind.i64 ((x : Int) * 16) (y : Int) = (z : Int) := by rw [hz]; exact or_eq x y hx16 hy16
            have HZ := Lib.hid hz
            have hob : (Value.slice A acc.length c).ownBlock ≠ some w.heap.size := by
              intro e
              have := (HW.out.1.lt _ e).1
              omega
            have HOB := Lib.hid hob
            have hw3 : ∀ n1 n2 n3 : Nat, (((((wr.drewN n1).setCell ⟨w.heap.size, 1, none⟩ (.int .i64 ((k : Int) + 1))).drewN n2).setCell ⟨w.heap.size, 1, none⟩ (.int .i64 ((k : Int) + 1 + 1))).drewN n3).ownsRow (w.heap.size + 1) 5 1 (.slice A acc.length c) acc.length (byteVals acc) := fun n1 n2 n3 =>
              own_drewN (own_set (own_drewN (own_set (own_drewN HW.out.1 n1) (p := ⟨w.heap.size, 1, none⟩) HOB.out _) n2) (p := ⟨w.heap.size, 1, none⟩) HOB.out _) n3
            have H3 := Lib.hid hw3
            have hb3 : ∀ n1 n2 n3 : Nat, Below w.heap.size w ((((((wr.drewN n1).setCell ⟨w.heap.size, 1, none⟩ (.int .i64 ((k : Int) + 1))).drewN n2).setCell ⟨w.heap.size, 1, none⟩ (.int .i64 ((k : Int) + 1 + 1))).drewN n3).alloc (.cells #[.int .u8 z] 5)) := fun n1 n2 n3 =>
              below_alloc (below_drewN (Below.setCell (p := ⟨w.heap.size, 1, none⟩) (below_drewN (Below.setCell (p := ⟨w.heap.size, 1, none⟩) (below_drewN HW.out.2.2 n1) (Nat.le_refl _) _) n2) (Nat.le_refl _) _) n3) _
            have HB3 := Lib.hid hb3
            have hlts := HW.out.2.1.lt
            clear hz hob hw3 hb3
            go_wp2_with fail
            refine (done_any _ _ _ _ h0 h1).mono ?_
            rintro e w' ⟨rfl, n1, rfl⟩
            go_wp2_with fail
            refine (digit_some 16 x w.heap.size k s (wr.drewN n1) h0 h1 hf hlt0 hm (.inr rfl) HA.out).mono ?_
            rintro e w' ⟨rfl, n2, rfl⟩
            go_wp2_with fail
            refine (digit_some 16 y w.heap.size (k + 1) s (((wr.drewN n1).setCell ⟨w.heap.size, 1, none⟩ (.int .i64 ((k : Int) + 1))).drewN n2) ((HBX.out n1 n2).cell 0) ((HBX.out n1 n2).cell 1) ((HBX.out n1 n2).frozen 1) hlt hm (.inr rfl) HB.out).mono ?_
            rintro e w' ⟨rfl, n3, rfl⟩
            go_wp2_with (first
              | (at_builtin; refine wpList_append_own _ rfl _ _ 31 rfl (w.heap.size + 1) 5 i0 _ 1 1 Tryd.underlying31 hi hz0 hz1 hz2 rfl (by decide) _ _ _ rfl ((H3.out n1 n2 n3).alloc _) ⟨wr.heap.size, 0, none⟩ 1 1 [.int .u8 (z : Int)] rfl rfl ?c1 ?c2 ?c3 ?c4 ?c5 ?_))
            case c1 => exact one_news _ _ (by simp [World.setCell]) _ _
            case c2 => intro u hu; simp at hu; subst hu; rfl
            case c3 => unfold maxLen; omega
            case c4 => omega
            case c5 => simp [World.setCell]; omega
            intro v' w2 hown2 hgrow _
            have hbel2 : Below w.heap.size w w2 := (HB3.out n1 n2 n3).grown hgrow (HB3.out n1 n2 n3).size fun k hk => Nat.le_of_succ_le (HW.out.1.lt k hk).1
            have hblk2 := ((((HBX.out n1 n2).set_ 1 (.int .i64 ((k : Int) + 1 + 1))).drewN n3).alloc (.cells #[.int .u8 (z : Int)] 5)).grown hgrow (fun e => HOB.out e.symm)
            have hbv : byteVals acc ++ [Value.int .u8 (z : Int)] = byteVals (acc ++ [UInt8.ofNat (16 * x + y)]) := by
              rw [byteVals_snoc, ← HZ.out]
              congr 3
              simp
              omega
            rw [hbv] at hown2
            have HH2 : Hid (hexD [] s.data.toList = hexD (acc ++ [UInt8.ofNat (16 * x + y)]) (s.data.toList.drop (k + 2))) := Lib.hid (by
              rw [HH.out, HD.out, hexD, HA.out, HB.out])
            have HL1 : Hid ((acc ++ [UInt8.ofNat (16 * x + y)]).length = acc.length + 1) := Lib.hid (by simp)
            obtain ⟨A', c', hv, _⟩ := own_slice hown2
            have HV := Lib.hid hv
            have HO := Lib.hid (And.intro hown2 (And.intro hblk2 hbel2))
            have h1' : w2.cell? ⟨w.heap.size, 1, none⟩ = some (.int .i64 ((k : Int) + 1 + 1)) := hblk2.cell 1
            have HP2 := HP.out
            clear hown2 hblk2 hbel2 hgrow hbv hv hbits
            go_wp2
            go_roundw
            case rel =>
              refine ⟨k + 2, acc ++ [UInt8.ofNat (16 * x + y)], A', c', by omega, Lib.hid (by omega), by rw [HL1.out]; exact HV.out, by rw [HL1.out]; omega, HH2, ?_, HO.out.2.1, HO.out.2.2⟩
              rw [HL1.out, ← HV.out]
              exact HO.out.1
            case measure =>
              rw [show ((k : Int) + 1 + 1) = ((k + 2 : Nat) : Int) from by omega] at h1'
              simp only [h1, h1', intOf, Int.toNat_natCast]
              exact (show s.size - (k + 2) < s.size - k by omega)
      · have hks : k = s.size := by have := HP.out; omega
        have HKS := Lib.hid hks
        have ht : ((k : Int) == (s.size : Int)) = true := beq_iff_eq.2 (by omega)
        have HN : Hid (hexD [] s.data.toList = some acc) := Lib.hid (by rw [HH.out, List.drop_of_length_le (by rw [HS.out]; omega)]; rfl)
        have HW := Lib.hid (And.intro hown (And.intro hBr hbel))
        clear hks hown hBr hbel
        go_wp2_with fail
        refine (done_any _ _ _ _ h0 h1).mono ?_
        rintro e w' ⟨rfl, n1, rfl⟩
        go_wp2
        go_ret2
        exact dh_done HN.out (own_weaken (Nat.le_succ _) (own_drewN HW.out.1 _)) (below_drewN HW.out.2.2 _)

end Go.Proofs.YtnddfmbgbgiljaaDoor
