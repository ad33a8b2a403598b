/- The walk of the laws' builder Table with an argument. -/
import Derived.Test.YtgfbikknkcaneaaPgM
namespace Go.Proofs.Ytgfbikknkcaneaa
open Go.RowKit

set_option maxRecDepth 100000 in
set_option maxHeartbeats 4000000 in
theorem table_pos (kd : Int) (kb ar : Nat) (z : Int) (w : World) (hk : kb ≤ 1000) (ha : ar ≤ 32) (har : 0 < ar) :
    Calls Try.prog 12 #[.int .i64 kd, .int .i64 kb, .int .i64 ar, .int .i64 z] w fun e w' =>
      ∃ s : Sm, e = .returned s.prog.val ∧ SmAt w' s ∧ s.kd = kd ∧ s.nk = min (kb / 8) 6 ∧ s.pw = some (ar : Int) ∧ s.size = z ∧ Below w.heap.size w w' := by
  obtain ⟨i0, hi, hz0, hz1, hz2⟩ := info_parts Try.infoKey
  have hm0 := mk0
  have hm1 := mk1
  have hn0 : kb / 8 ≤ 125 := by omega
  have hd3 : (kb : Int).tdiv 8 = ((kb / 8 : Nat) : Int) := Int.ofNat_tdiv kb 8
  have hd4 : (kb : Int) / 8 = ((kb / 8 : Nat) : Int) := by omega
  generalize kb / 8 = n at *
  go_enter Try.func12, Try.ntmps12
  go_wp2_with fail
  refine (plain_any _).mono ?_
  rintro e w1 ⟨g1, g2, rfl, hm, hs, hb1⟩
  have HM := Lib.hid hm
  have HS := Lib.hid hs
  have HB1 := Lib.hid hb1
  clear hm hs hb1
  go_wp2
  obtain ⟨W2, hW2⟩ : ∃ W2, W2 = w1.alloc (.cells #[.string ⟨#[112]⟩, .slice none 0 0, .slice (some ⟨g1, 0, none⟩) 3 3, .slice none 0 0, .slice none 0 0, .slice none 0 0, .slice (some ⟨g2, 0, none⟩) 1 1, .slice none 0 0, .slice none 0 0] 42) := ⟨_, rfl⟩
  have HP : Hid (Blk W2 w1.heap.size 42 #[.string ⟨#[112]⟩, .slice none 0 0, .slice (some ⟨g1, 0, none⟩) 3 3, .slice none 0 0, .slice none 0 0, .slice none 0 0, .slice (some ⟨g2, 0, none⟩) 1 1, .slice none 0 0, .slice none 0 0]) := Lib.hid (by rw [hW2]; exact Blk.new _ _ _)
  have HB2 : Hid (Below w1.heap.size w1 W2) := Lib.hid (by rw [hW2]; exact below1 _ _)
  rw [← hW2]
  clear hW2
  go_loopw [10, 11] (fun ov iv wr => ∃ (k : Nat) (A : Option Addr) (c : Nat), k ≤ n ∧ k ≤ 6 ∧ iv = .int .i64 k ∧ ov = .slice A k c ∧ wr.ownsRow W2.heap.size 67 3 (.slice A k c) k (keyCells kd k) ∧ Below W2.heap.size W2 wr)
    (fun _ i _ => 6 - (intOf i).toNat)
  case atStart => exact ⟨0, none, 0, Nat.zero_le _, Nat.zero_le _, rfl, rfl, World.ownsRow_nil _ _ _ _, Below.refl _ _⟩
  case round =>
    obtain ⟨k, A, c, hk1, hk6, rfl, rfl, hown, hbel⟩ := hrel
    have HO := Lib.hid hown
    have HBE := Lib.hid hbel
    clear hown hbel
    by_cases hlt : k < n ∧ k < 6
    · have hl1 := hlt.1
      have hl2 := hlt.2
      clear hlt
      have hws := HBE.out.size
      go_wp2_with (first
        | (at_builtin; refine wpList_append_own _ rfl _ _ 55 rfl W2.heap.size 67 i0 _ 3 24 Try.underlying55 hi hz0 hz1 hz2 rfl (by decide) _ _ _ rfl (HO.out.alloc _) ⟨wr.heap.size, 0, none⟩ 1 1 [.int .i64 (-1), .int .i64 0, .int .i64 kd] rfl rfl ?c1 ?c2 ?c3 ?c4 ?c5 ?_))
      case c1 =>
        intro j u hj
        match j, hj with
        | 0, hj => simp at hj; subst hj; simp [Addr.add]
        | 1, hj => simp at hj; subst hj; simp [Addr.add]
        | 2, hj => simp at hj; subst hj; simp [Addr.add]
      case c2 => intro u hu; simp at hu; rcases hu with rfl | rfl | rfl <;> rfl
      case c3 => unfold maxLen; omega
      case c4 => omega
      case c5 => simp; omega
      intro v' w3 hown3 hgrow _
      have hbw : Below W2.heap.size W2 w3 := (below_alloc HBE.out _).grown hgrow (below_alloc HBE.out _).size fun j hj => (HO.out.lt j hj).1
      obtain ⟨A', c', rfl⟩ : ∃ A' c', v' = .slice A' (k + 1) c' := by
        rcases hown3.2 with ⟨hv, h0⟩ | ⟨g', cap, cur, hv, _, _, _⟩
        · omega
        · exact ⟨_, _, hv⟩
      have HO3 := Lib.hid hown3
      have HB3 := Lib.hid hbw
      clear hown3 hbw hgrow
      go_wp2
      go_roundw
      case rel => exact ⟨k + 1, A', c', by omega, by omega, by go_num, rfl, HO3.out, HB3.out⟩
      case measure => simp [intOf]; omega
    · have HKM := Lib.hid (show k = min n 6 by omega)
      have hPW : Blk wr w1.heap.size 42 _ := HP.out.below HBE.out HP.out.lt
      have hR0 : Blk w1 w.heap.size 42 #[.string ⟨#[]⟩, .slice none 0 0, .slice none 0 0, .slice none 0 0, .slice none 0 0, .slice none 0 0, .slice none 0 0, .slice none 0 0, .slice none 0 0] := (Blk.new w _ _).below HB1.out (Blk.new w _ _).lt
      have hRW : Blk wr w.heap.size 42 _ := (hR0.below HB2.out hR0.lt).below HBE.out (hR0.below HB2.out hR0.lt).lt
      have hlt1 : w.heap.size < w1.heap.size := hR0.lt
      have hlt2 : w1.heap.size < wr.heap.size := hPW.lt
      have HPW := Lib.hid hPW
      have HRW := Lib.hid hRW
      have p0 := hPW.cell 0
      have p1 := hPW.cell 1
      have p2 := hPW.cell 2
      have p3 := hPW.cell 3
      have p4 := hPW.cell 4
      have p5 := hPW.cell 5
      have p6 := hPW.cell 6
      have p7 := hPW.cell 7
      have p8 := hPW.cell 8
      have pf0 := hPW.frozen 0
      have pf1 := hPW.frozen 1
      have pf2 := hPW.frozen 2
      have pf3 := hPW.frozen 3
      have pf4 := hPW.frozen 4
      have pf5 := hPW.frozen 5
      have pf6 := hPW.frozen 6
      have pf7 := hPW.frozen 7
      have pf8 := hPW.frozen 8
      have r0 := hRW.cell 0
      have r1 := hRW.cell 1
      have r2 := hRW.cell 2
      have r3 := hRW.cell 3
      have r4 := hRW.cell 4
      have r5 := hRW.cell 5
      have r6 := hRW.cell 6
      have r7 := hRW.cell 7
      have r8 := hRW.cell 8
      have rf0 := hRW.frozen 0
      have rf1 := hRW.frozen 1
      have rf2 := hRW.frozen 2
      have rf3 := hRW.frozen 3
      have rf4 := hRW.frozen 4
      have rf5 := hRW.frozen 5
      have rf6 := hRW.frozen 6
      have rf7 := hRW.frozen 7
      have rf8 := hRW.frozen 8
      simp only [List.getElem?_toArray, List.getElem?_cons_zero, List.getElem?_cons_succ] at p0 p1 p2 p3 p4 p5 p6 p7 p8 r0 r1 r2 r3 r4 r5 r6 r7 r8
      clear hPW hR0 hRW
      have l0 : w1.heap.size < wr.heap.size := by omega
      have l1 : w1.heap.size < wr.heap.size + 1 := by omega
      have l2 : w1.heap.size < wr.heap.size + 1 + 1 := by omega
      have l3 : w1.heap.size < wr.heap.size + 1 + 1 + 1 := by omega
      have l4 : w1.heap.size < wr.heap.size + 1 + 1 + 1 + 1 := by omega
      have l5 : w1.heap.size < wr.heap.size + 1 + 1 + 1 + 1 + 1 := by omega
      have l6 : w1.heap.size < wr.heap.size + 1 + 1 + 1 + 1 + 1 + 1 := by omega
      have m0 : w.heap.size < wr.heap.size := by omega
      have m1 : w.heap.size < wr.heap.size + 1 := by omega
      have m2 : w.heap.size < wr.heap.size + 1 + 1 := by omega
      have m3 : w.heap.size < wr.heap.size + 1 + 1 + 1 := by omega
      have m4 : w.heap.size < wr.heap.size + 1 + 1 + 1 + 1 := by omega
      have m5 : w.heap.size < wr.heap.size + 1 + 1 + 1 + 1 + 1 := by omega
      have m6 : w.heap.size < wr.heap.size + 1 + 1 + 1 + 1 + 1 + 1 := by omega
      have hcl := @World.cell?_alloc_lt
      have hfl := @World.frozen?_alloc_old
      have HLT := Lib.hid hlt1
      have HBF : Hid (Below w.heap.size w wr) := Lib.hid (below_step (below_step (below_step (below1 w _) HB1.out) HB2.out) HBE.out)
      have HAR := Lib.hid ha
      have KEY : Hid (∀ (Wf : World) (ag : Nat) (pw : Option Int) (pA : Option Addr) (pc tg ig dg dc : Nat), Far wr Wf w1.heap.size w.heap.size →
          Blk Wf ag 70 #[.string ⟨#[120]⟩, .slice pA (npOf pw) pc, .slice none 0 0] →
          Blk Wf tg 60 #[.string ⟨#[116]⟩, .slice A k c, .slice (some ⟨ig, 0, none⟩) 1 1, .int .i64 0, .slice (some ⟨dg, 0, none⟩) (npOf pw) dc, .int .i64 z] →
          Blk Wf ig 3 #[.int .i64 0] → LOk Wf 2 FieldD.cells (tblSm g1 g2 ag pw pA pc tg kd k A c ig dg dc z).params → LOk Wf 1 ucell (tblSm g1 g2 ag pw pA pc tg kd k A c ig dg dc z).args →
          SmAt Wf (tblSm g1 g2 ag pw pA pc tg kd k A c ig dg dc z)) := Lib.hid (by
        intro Wf ag pw pA pc tg ig dg dc hf ha1 ht1 hi1 hp1 hd1
        have hmW : Blk wr g1 72 metaCells := (HM.out.below HB2.out HM.out.lt).below HBE.out (HM.out.below HB2.out HM.out.lt).lt
        have hsW : Blk wr g2 81 stateCells := (HS.out.below HB2.out HS.out.lt).below HBE.out (HS.out.below HB2.out HS.out.lt).lt
        refine tblSm_at (hf.blk hmW (hmW.ne HPW.out (by decide)) (hmW.ne HRW.out (by decide))) (hf.blk hsW (hsW.ne HPW.out (by decide)) (hsW.ne HRW.out (by decide))) ha1 ht1 hi1 ?_ hk6 hp1 hd1
        rcases Nat.eq_zero_or_pos k with h0 | h0
        · exact .inl h0
        · obtain ⟨g, cap, hv, hge, hlt⟩ := HO.out.form h0
          have hA : A = some ⟨g, 0, none⟩ := by injection hv
          subst hA
          have hb2 := HP.out.lt
          refine .inr ⟨g, rfl, Nat.lt_of_lt_of_le hlt hf.1, fun j hj => ?_⟩
          rw [← HO.out.cellAt j hj]
          exact World.cell?_of_block (w := wr) (hf.2 g hlt (by omega) (by have := HLT.out; omega)))
      rcases (show n ≤ k ∨ (k < n ∧ 6 ≤ k) by omega) with hx | ⟨hx, hx2⟩
      · clear hlt hk1 hk6
        go_wp2
        refine bodyPost_ret (results_cell_row (fn := Try.f12) (p := 8) (ty := 42) rfl _ _ w.heap.size 42 (tblSm g1 g2 (wr.heap.size + 2) (some (ar : Int)) (some ⟨wr.heap.size + 1, 0, none⟩) 1 (wr.heap.size + 5) kd k A c (wr.heap.size + 3) (wr.heap.size + 4) 1 z).cells9 (0, 0) _ rfl ?hg Try.underlying42 rfl (by kernel_rfl)) rfl ⟨(tblSm g1 g2 (wr.heap.size + 2) (some (ar : Int)) (some ⟨wr.heap.size + 1, 0, none⟩) 1 (wr.heap.size + 5) kd k A c (wr.heap.size + 3) (wr.heap.size + 4) 1 z), rfl, ?hat, rfl, HKM.out, rfl, rfl, ?hbl⟩
        case hg =>
          show Blk _ _ _ _
          refine Blk.alloc ?_ _
          refine Blk.alloc ?_ _
          refine Blk.alloc ?_ _
          refine Blk.alloc ?_ _
          refine Blk.alloc ?_ _
          refine Blk.alloc ?_ _
          exact (((((((((HRW.out.far (Nat.ne_of_lt HLT.out) _).far (Nat.ne_of_lt HLT.out) _).set_ 0 _).set_ 1 _).set_ 2 _).set_ 3 _).set_ 4 _).set_ 5 _).set_ 6 _ |>.set_ 7 _).set_ 8 _
        case hbl => exact below_alloc (below_alloc (below_alloc (below_alloc (below_alloc (below_alloc (Below.setCell (Below.setCell (Below.setCell (Below.setCell (Below.setCell (Below.setCell (Below.setCell (Below.setCell (Below.setCell (Below.setCell (Below.setCell (HBF.out) (Nat.le_of_lt HLT.out) _) (Nat.le_of_lt HLT.out) _) (Nat.le_refl _) _) (Nat.le_refl _) _) (Nat.le_refl _) _) (Nat.le_refl _) _) (Nat.le_refl _) _) (Nat.le_refl _) _) (Nat.le_refl _) _) (Nat.le_refl _) _) (Nat.le_refl _) _) _) _) _) _) _) _
        refine KEY.out _ (wr.heap.size + 2) (some (ar : Int)) (some ⟨wr.heap.size + 1, 0, none⟩) 1 (wr.heap.size + 5) (wr.heap.size + 3) (wr.heap.size + 4) 1 ((((((((((((((((((Far.refl _ _ _).setP _ _).setP _ _).setR _ _).setR _ _).setR _ _).setR _ _).setR _ _).setR _ _).setR _ _).setR _ _).setR _ _).alloc _).alloc _).alloc _).alloc _).alloc _).alloc _) ((((Blk.newAt _ (by simp) _ _).alloc _).alloc _).alloc _) (Blk.newAt _ (by simp) _ _) (((Blk.newAt _ (by simp) _ _).alloc _).alloc _) ?_ ?_
        · exact LOk.one (t := 72) (cs := #[.string vName, .int .i64 ar]) (((((Blk.newAt _ (by simp) _ _).alloc _).alloc _).alloc _).alloc _) rfl
        · exact LOk.one (t := 114) (cs := #[.int .u32 0]) ((Blk.newAt _ (by simp) _ _).alloc _) rfl
      · clear hlt hk1 hk6
        go_wp2
        refine bodyPost_ret (results_cell_row (fn := Try.f12) (p := 8) (ty := 42) rfl _ _ w.heap.size 42 (tblSm g1 g2 (wr.heap.size + 2) (some (ar : Int)) (some ⟨wr.heap.size + 1, 0, none⟩) 1 (wr.heap.size + 5) kd k A c (wr.heap.size + 3) (wr.heap.size + 4) 1 z).cells9 (0, 0) _ rfl ?hgX Try.underlying42 rfl (by kernel_rfl)) rfl ⟨(tblSm g1 g2 (wr.heap.size + 2) (some (ar : Int)) (some ⟨wr.heap.size + 1, 0, none⟩) 1 (wr.heap.size + 5) kd k A c (wr.heap.size + 3) (wr.heap.size + 4) 1 z), rfl, ?hatX, rfl, HKM.out, rfl, rfl, ?hblX⟩
        case hgX =>
          show Blk _ _ _ _
          refine Blk.alloc ?_ _
          refine Blk.alloc ?_ _
          refine Blk.alloc ?_ _
          refine Blk.alloc ?_ _
          refine Blk.alloc ?_ _
          refine Blk.alloc ?_ _
          exact (((((((((HRW.out.far (Nat.ne_of_lt HLT.out) _).far (Nat.ne_of_lt HLT.out) _).set_ 0 _).set_ 1 _).set_ 2 _).set_ 3 _).set_ 4 _).set_ 5 _).set_ 6 _ |>.set_ 7 _).set_ 8 _
        case hblX => exact below_alloc (below_alloc (below_alloc (below_alloc (below_alloc (below_alloc (Below.setCell (Below.setCell (Below.setCell (Below.setCell (Below.setCell (Below.setCell (Below.setCell (Below.setCell (Below.setCell (Below.setCell (Below.setCell (HBF.out) (Nat.le_of_lt HLT.out) _) (Nat.le_of_lt HLT.out) _) (Nat.le_refl _) _) (Nat.le_refl _) _) (Nat.le_refl _) _) (Nat.le_refl _) _) (Nat.le_refl _) _) (Nat.le_refl _) _) (Nat.le_refl _) _) (Nat.le_refl _) _) (Nat.le_refl _) _) _) _) _) _) _) _
        refine KEY.out _ (wr.heap.size + 2) (some (ar : Int)) (some ⟨wr.heap.size + 1, 0, none⟩) 1 (wr.heap.size + 5) (wr.heap.size + 3) (wr.heap.size + 4) 1 ((((((((((((((((((Far.refl _ _ _).setP _ _).setP _ _).setR _ _).setR _ _).setR _ _).setR _ _).setR _ _).setR _ _).setR _ _).setR _ _).setR _ _).alloc _).alloc _).alloc _).alloc _).alloc _).alloc _) ((((Blk.newAt _ (by simp) _ _).alloc _).alloc _).alloc _) (Blk.newAt _ (by simp) _ _) (((Blk.newAt _ (by simp) _ _).alloc _).alloc _) ?_ ?_
        · exact LOk.one (t := 72) (cs := #[.string vName, .int .i64 ar]) (((((Blk.newAt _ (by simp) _ _).alloc _).alloc _).alloc _).alloc _) rfl
        · exact LOk.one (t := 114) (cs := #[.int .u32 0]) ((Blk.newAt _ (by simp) _ _).alloc _) rfl
end Go.Proofs.Ytgfbikknkcaneaa

