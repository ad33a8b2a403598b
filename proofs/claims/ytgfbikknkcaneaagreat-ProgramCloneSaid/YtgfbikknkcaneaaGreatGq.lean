/- The walk of law 21's spoil. No condition but that the program lies in blocks of the call's own. -/
import Derived.Test.YtgfbikknkcaneaaGreatGp
namespace Go.Proofs.YtgfbikknkcaneaaGreat
open Go.RowKit

set_option maxRecDepth 100000 in
set_option maxHeartbeats 16000000 in
theorem spoil_any {F : Nat → Prop} {w0 : World} (p : ProgD) (w : World) (o : ProgOwn w0 F p) (hF : ∀ g, F g → g < w0.heap.size) (hw : Sp F w0 w) :
    Calls Tryz.prog 28 #[.agg (progCells p)] w fun e w' => e = .returned (.tuple #[]) ∧ Sp F w w' := by
  obtain ⟨nm, ⟨hl0, hA0, hc0⟩, ⟨ml0, mA0, mc0⟩, ⟨rl0, rA0, rc0⟩, ⟨al0, aA0, ac0⟩, ⟨tl0, tA0, tc0⟩, ⟨sl0, sA0, sc0⟩, ⟨cl0, cA0, cc0⟩, ⟨dl0, dA0, dc0⟩⟩ := p
  simp only [progCells] at *
  obtain ⟨W, hW, hw1, HB, hFW, hp⟩ := sbox (fun g hg => Nat.lt_of_lt_of_le (hF g hg) hw.size) (Sp.refl F w) #[.string nm, .slice hA0 hl0.length hc0, .slice mA0 ml0.length mc0, .slice rA0 rl0.length rc0, .slice aA0 al0.length ac0, .slice tA0 tl0.length tc0, .slice sA0 sl0.length sc0, .slice cA0 cl0.length cc0, .slice dA0 dl0.length dc0] 31
  have HO := Lib.hid o
  have H0 := Lib.hid (hw.trans hw1)
  have HW := Lib.hid hw1
  have HFW := Lib.hid hFW
  have HFF := Lib.hid hF
  clear o hw hw1 hFW hF
  go_enter Tryz.func28, Tryz.ntmps28
  go_upto_region 1 with fail
  rw [← hW]
  clear hW
  have hm0 := HO.out.headers.max
  simp only [maxLen] at hm0
  go_wp2
  have HX0 := Lib.hid HB
  clear HB
  go_loopw [2] (fun iv wr => ∃ k : Nat, k ≤ hl0.length ∧ iv = .int .i64 k ∧ Sp F W wr) (fun i _ => hl0.length - (intOf i).toNat)
  case atStart => exact ⟨0, Nat.zero_le _, rfl, HX0.out⟩
  case round =>
  clear HX0
  obtain ⟨j0, hj0, rfl, HB⟩ := hrel
  by_cases hlt : j0 < hl0.length
  · obtain ⟨g, of, hA, hsp⟩ := HeaderD.sp HO.out.headers hlt
    simp only at hA hsp
    subst hA
    have HX := Lib.hid (HO.out.hdr _ (List.getElem_mem hlt))
    generalize hl0[j0] = y at *
    obtain ⟨yn, ⟨xl, xA, xc⟩⟩ := y
    simp only at hsp
    have HSP := Lib.hid hsp
    clear hsp
    have hp0 := hp _ HB
    have hm1 := HX.out.fields.max
    simp only [maxLen] at hm1
    go_wp2
    have HX1 := Lib.hid HB
    clear HB
    go_loopw [3] (fun iv wr => ∃ k : Nat, k ≤ xl.length ∧ iv = .int .i64 k ∧ Sp F W wr) (fun i _ => xl.length - (intOf i).toNat)
    case atStart => exact ⟨0, Nat.zero_le _, rfl, HX1.out⟩
    case round =>
    clear HX1
    obtain ⟨j1, hj1, rfl, HB⟩ := hrel
    clear hp0
    have hp0 := hp _ HB
    obtain ⟨d0, d1⟩ := HSP.out _ _ H0.out HB
    by_cases hjt1 : j1 < xl.length
    · obtain ⟨g1, of1, hA1, hsp1⟩ := FieldD.sp HX.out.fields hjt1
      simp only at hA1
      subst hA1
      obtain ⟨e1d0, ⟨e1b1, e1d1⟩, e1hz, e1hset⟩ := hsp1 _ _ H0.out HB
      have HS1 := Lib.hid e1hset
      clear e1hset hsp1
      go_wp2
      go_roundw
      case rel => exact ⟨j1 + 1, by omega, by go_num, HS1.out _⟩
      case measure => simp [intOf]; omega
    go_wp2
    go_roundw
    case rel => exact ⟨j0 + 1, by omega, by go_num, HB⟩
    case measure => simp [intOf]; omega
  have hp0 := hp _ HB
  have hm2 := HO.out.metadata.max
  simp only [maxLen] at hm2
  go_wp2
  have HX2 := Lib.hid HB
  clear HB
  go_loopw [4] (fun iv wr => ∃ k : Nat, k ≤ ml0.length ∧ iv = .int .i64 k ∧ Sp F W wr) (fun i _ => ml0.length - (intOf i).toNat)
  case atStart => exact ⟨0, Nat.zero_le _, rfl, HX2.out⟩
  case round =>
  clear HX2
  obtain ⟨j2, hj2, rfl, HB⟩ := hrel
  clear hp0
  have hp0 := hp _ HB
  by_cases hjt2 : j2 < ml0.length
  · obtain ⟨g2, of2, hA2, hsp2⟩ := FieldD.sp HO.out.metadata hjt2
    simp only at hA2
    subst hA2
    obtain ⟨e2d0, ⟨e2b1, e2d1⟩, e2hz, e2hset⟩ := hsp2 _ _ H0.out HB
    have HS2 := Lib.hid e2hset
    clear e2hset hsp2
    go_wp2
    go_roundw
    case rel => exact ⟨j2 + 1, by omega, by go_num, HS2.out _⟩
    case measure => simp [intOf]; omega
  have hm3 := HO.out.actions.max
  simp only [maxLen] at hm3
  go_wp2
  have HX3 := Lib.hid HB
  clear HB
  go_loopw [5] (fun iv wr => ∃ k : Nat, k ≤ al0.length ∧ iv = .int .i64 k ∧ Sp F W wr) (fun i _ => al0.length - (intOf i).toNat)
  case atStart => exact ⟨0, Nat.zero_le _, rfl, HX3.out⟩
  case round =>
  clear HX3
  obtain ⟨j3, hj3, rfl, HB⟩ := hrel
  clear hp0
  have hp0 := hp _ HB
  by_cases hlt : j3 < al0.length
  · obtain ⟨g, of, hA, hsp⟩ := ActD.sp HO.out.actions hlt
    simp only at hA hsp
    subst hA
    have HX := Lib.hid (HO.out.act _ (List.getElem_mem hlt))
    generalize al0[j3] = y at *
    obtain ⟨yn, ⟨xl, xA, xc⟩, ⟨bl, bA, bc⟩⟩ := y
    simp only at hsp
    have HSP := Lib.hid hsp
    clear hsp
    have hm4 := HX.out.params.max
    simp only [maxLen] at hm4
    go_wp2
    have HX4 := Lib.hid HB
    clear HB
    go_loopw [6] (fun iv wr => ∃ k : Nat, k ≤ xl.length ∧ iv = .int .i64 k ∧ Sp F W wr) (fun i _ => xl.length - (intOf i).toNat)
    case atStart => exact ⟨0, Nat.zero_le _, rfl, HX4.out⟩
    case round =>
    clear HX4
    obtain ⟨j4, hj4, rfl, HB⟩ := hrel
    clear hp0
    have hp0 := hp _ HB
    obtain ⟨d0, d1, d2⟩ := HSP.out _ _ H0.out HB
    by_cases hjt4 : j4 < xl.length
    · obtain ⟨g4, of4, hA4, hsp4⟩ := FieldD.sp HX.out.params hjt4
      simp only at hA4
      subst hA4
      obtain ⟨e4d0, ⟨e4b1, e4d1⟩, e4hz, e4hset⟩ := hsp4 _ _ H0.out HB
      have HS4 := Lib.hid e4hset
      clear e4hset hsp4
      go_wp2
      go_roundw
      case rel => exact ⟨j4 + 1, by omega, by go_num, HS4.out _⟩
      case measure => simp [intOf]; omega
    have hm5 := HX.out.body.max
    simp only [maxLen] at hm5
    go_wp2
    have HX5 := Lib.hid HB
    clear HB
    go_loopw [7] (fun iv wr => ∃ k : Nat, k ≤ bl.length ∧ iv = .int .i64 k ∧ Sp F W wr) (fun i _ => bl.length - (intOf i).toNat)
    case atStart => exact ⟨0, Nat.zero_le _, rfl, HX5.out⟩
    case round =>
    clear HX5
    obtain ⟨j5, hj5, rfl, HB⟩ := hrel
    clear hp0 d0 d1 d2
    have hp0 := hp _ HB
    obtain ⟨d0, d1, d2⟩ := HSP.out _ _ H0.out HB
    by_cases hlt2 : j5 < bl.length
    · obtain ⟨g2, of2, hA2, hsp2⟩ := StmtD.sp HX.out.body hlt2
      simp only at hA2 hsp2
      subst hA2
      have HX2 := Lib.hid (HX.out.stmts _ (List.getElem_mem hlt2))
      generalize bl[j5] = z at *
      obtain ⟨zk, zdh, zdf, zr, zh, ⟨il, iA, ic⟩, ⟨vl, vA, vc⟩⟩ := z
      simp only at hsp2
      have HSP2 := Lib.hid hsp2
      obtain ⟨⟨b0, e0⟩, ⟨b1, e1⟩, ⟨b2, e2⟩, ⟨b3, e3⟩, ⟨b4, e4⟩, e5, e6, hz, hset⟩ := hsp2 _ _ H0.out HB
      obtain ⟨V, hV, hv1, HV, hFV, hq⟩ := sbox HFW.out HB #[.int .i64 b0, .int .i64 b1, .int .i64 b2, .int .i64 b3, .int .i64 b4, .slice iA il.length ic, .slice vA vl.length vc] 129
      clear hset hz hsp2 hFV
      go_upto_region 23 with fail
      rw [← hV]
      have HBV := Lib.hid (HB.trans hv1)
      have H0V := Lib.hid (H0.out.trans HBV.out)
      clear hV HB hp0 d0 d1 d2 e0 e1 e2 e3 e4 e5 e6 hv1
      have hm6 := HX2.out.index.max
      simp only [maxLen] at hm6
      go_wp2
      have HX6 := Lib.hid HV
      clear HV
      go_loopw [9] (fun iv wr => ∃ k : Nat, k ≤ il.length ∧ iv = .int .i64 k ∧ Sp F V wr) (fun i _ => il.length - (intOf i).toNat)
      case atStart => exact ⟨0, Nat.zero_le _, rfl, HX6.out⟩
      case round =>
      clear HX6
      obtain ⟨j6, hj6, rfl, HV⟩ := hrel
      have hq0 := hq _ HV
      by_cases hjt6 : j6 < il.length
      · obtain ⟨g6, of6, hA6, hsp6⟩ := NodeD.sp HX2.out.index hjt6
        simp only at hA6
        subst hA6
        obtain ⟨⟨e6b0, e6d0⟩, ⟨e6b1, e6d1⟩, ⟨e6b2, e6d2⟩, e6hz, e6hset⟩ := hsp6 _ _ H0V.out HV
        have HS6 := Lib.hid e6hset
        clear e6hset hsp6
        go_wp2
        go_roundw
        case rel => exact ⟨j6 + 1, by omega, by go_num, HS6.out _⟩
        case measure => simp [intOf]; omega
      have hm7 := HX2.out.value.max
      simp only [maxLen] at hm7
      go_wp2
      have HX7 := Lib.hid HV
      clear HV
      go_loopw [10] (fun iv wr => ∃ k : Nat, k ≤ vl.length ∧ iv = .int .i64 k ∧ Sp F V wr) (fun i _ => vl.length - (intOf i).toNat)
      case atStart => exact ⟨0, Nat.zero_le _, rfl, HX7.out⟩
      case round =>
      clear HX7
      obtain ⟨j7, hj7, rfl, HV⟩ := hrel
      clear hq0
      have hq0 := hq _ HV
      by_cases hjt7 : j7 < vl.length
      · obtain ⟨g7, of7, hA7, hsp7⟩ := NodeD.sp HX2.out.value hjt7
        simp only at hA7
        subst hA7
        obtain ⟨⟨e7b0, e7d0⟩, ⟨e7b1, e7d1⟩, ⟨e7b2, e7d2⟩, e7hz, e7hset⟩ := hsp7 _ _ H0V.out HV
        have HS7 := Lib.hid e7hset
        clear e7hset hsp7
        go_wp2
        go_roundw
        case rel => exact ⟨j7 + 1, by omega, by go_num, HS7.out _⟩
        case measure => simp [intOf]; omega
      have HB := HBV.out.trans HV
      have hp0 := hp _ HB
      obtain ⟨d0, d1, d2⟩ := HSP.out _ _ H0.out HB
      obtain ⟨⟨b0, e0⟩, ⟨b1, e1⟩, ⟨b2, e2⟩, ⟨b3, e3⟩, ⟨b4, e4⟩, e5, e6, hz, hset⟩ := HSP2.out _ _ H0.out HB
      have HS := Lib.hid hset
      clear hset HB
      go_wp2
      go_roundw
      case rel => exact ⟨j5 + 1, by omega, by go_num, HS.out _⟩
      case measure => simp [intOf]; omega
    go_wp2
    go_roundw
    case rel => exact ⟨j3 + 1, by omega, by go_num, HB⟩
    case measure => simp [intOf]; omega
  have hm8 := HO.out.tables.max
  simp only [maxLen] at hm8
  go_wp2
  have HX8 := Lib.hid HB
  clear HB
  go_loopw [11] (fun iv wr => ∃ k : Nat, k ≤ tl0.length ∧ iv = .int .i64 k ∧ Sp F W wr) (fun i _ => tl0.length - (intOf i).toNat)
  case atStart => exact ⟨0, Nat.zero_le _, rfl, HX8.out⟩
  case round =>
  clear HX8
  obtain ⟨j8, hj8, rfl, HB⟩ := hrel
  clear hp0
  have hp0 := hp _ HB
  by_cases hlt : j8 < tl0.length
  · obtain ⟨g, of, hA, hsp⟩ := TabD.sp HO.out.tables hlt
    simp only at hA hsp
    subst hA
    have HX := Lib.hid (HO.out.tab _ (List.getElem_mem hlt))
    generalize tl0[j8] = y at *
    obtain ⟨yn, ⟨xl, xA, xc⟩, ⟨bl, bA, bc⟩, yd, ⟨gl, gA, gc⟩, ys⟩ := y
    simp only at hsp
    have HSP := Lib.hid hsp
    obtain ⟨d0, d1, d2, ⟨b3, d3⟩, d4, ⟨b5, d5⟩, hz, hset⟩ := hsp _ _ H0.out HB
    obtain ⟨V, hV, hv1, HV, hFV, hq⟩ := sbox HFW.out HB #[.string yn, .slice xA xl.length xc, .slice bA bl.length bc, .int .i64 b3, .slice gA gl.length gc, .int .i64 b5] 52
    clear hset hz hsp hFV
    go_upto_region 36 with fail
    rw [← hV]
    have HBV := Lib.hid (HB.trans hv1)
    have H0V := Lib.hid (H0.out.trans HBV.out)
    clear hV HB hp0 d0 d1 d2 d3 d4 d5 hv1
    have hm9 := HX.out.keys.max
    simp only [maxLen] at hm9
    go_wp2
    have HX9 := Lib.hid HV
    clear HV
    go_loopw [13] (fun iv wr => ∃ k : Nat, k ≤ xl.length ∧ iv = .int .i64 k ∧ Sp F V wr) (fun i _ => xl.length - (intOf i).toNat)
    case atStart => exact ⟨0, Nat.zero_le _, rfl, HX9.out⟩
    case round =>
    clear HX9
    obtain ⟨j9, hj9, rfl, HV⟩ := hrel
    have hq0 := hq _ HV
    by_cases hjt9 : j9 < xl.length
    · obtain ⟨g9, of9, hA9, hsp9⟩ := KeyD.sp HX.out.keys hjt9
      simp only at hA9
      subst hA9
      obtain ⟨⟨e9b0, e9d0⟩, ⟨e9b1, e9d1⟩, ⟨e9b2, e9d2⟩, e9hz, e9hset⟩ := hsp9 _ _ H0V.out HV
      have HS9 := Lib.hid e9hset
      clear e9hset hsp9
      go_wp2
      go_roundw
      case rel => exact ⟨j9 + 1, by omega, by go_num, HS9.out _⟩
      case measure => simp [intOf]; omega
    have hma := HX.out.acts.max
    simp only [maxLen] at hma
    go_wp2
    have HXa := Lib.hid HV
    clear HV
    go_loopw [14] (fun iv wr => ∃ k : Nat, k ≤ bl.length ∧ iv = .int .i64 k ∧ Sp F V wr) (fun i _ => bl.length - (intOf i).toNat)
    case atStart => exact ⟨0, Nat.zero_le _, rfl, HXa.out⟩
    case round =>
    clear HXa
    obtain ⟨ja, hja, rfl, HV⟩ := hrel
    clear hq0
    have hq0 := hq _ HV
    by_cases hjta : ja < bl.length
    · obtain ⟨ga, ofa, hAa, hspa⟩ := icell_sp HX.out.acts hjta
      simp only at hAa
      subst hAa
      obtain ⟨⟨eab0, ead0⟩, eahz, eahset⟩ := hspa _ _ H0V.out HV
      have HSa := Lib.hid eahset
      clear eahset hspa
      go_wp2
      go_roundw
      case rel => exact ⟨ja + 1, by omega, by go_num, HSa.out _⟩
      case measure => simp [intOf]; omega
    have hmb := HX.out.args.max
    simp only [maxLen] at hmb
    go_wp2
    have HXb := Lib.hid HV
    clear HV
    go_loopw [15] (fun iv wr => ∃ k : Nat, k ≤ gl.length ∧ iv = .int .i64 k ∧ Sp F V wr) (fun i _ => gl.length - (intOf i).toNat)
    case atStart => exact ⟨0, Nat.zero_le _, rfl, HXb.out⟩
    case round =>
    clear HXb
    obtain ⟨jb, hjb, rfl, HV⟩ := hrel
    clear hq0
    have hq0 := hq _ HV
    by_cases hjtb : jb < gl.length
    · obtain ⟨gb, ofb, hAb, hspb⟩ := ucell_sp HX.out.args hjtb
      simp only at hAb
      subst hAb
      obtain ⟨⟨ebb0, ebd0⟩, ebhz, ebhset⟩ := hspb _ _ H0V.out HV
      have HSb := Lib.hid ebhset
      clear ebhset hspb
      go_wp2
      go_roundw
      case rel => exact ⟨jb + 1, by omega, by go_num, HSb.out _⟩
      case measure => simp [intOf]; omega
    have HB := HBV.out.trans HV
    have hp0 := hp _ HB
    obtain ⟨d0, d1, d2, ⟨b3, d3⟩, d4, ⟨b5, d5⟩, hz, hset⟩ := HSP.out _ _ H0.out HB
    have HS := Lib.hid hset
    clear hset HB
    go_wp2
    go_roundw
    case rel => exact ⟨j8 + 1, by omega, by go_num, HS.out _⟩
    case measure => simp [intOf]; omega
  go_wp2_with fail
  refine (spoilRest_any ⟨nm, ⟨hl0, hA0, hc0⟩, ⟨ml0, mA0, mc0⟩, ⟨rl0, rA0, rc0⟩, ⟨al0, aA0, ac0⟩, ⟨tl0, tA0, tc0⟩, ⟨sl0, sA0, sc0⟩, ⟨cl0, cA0, cc0⟩, ⟨dl0, dA0, dc0⟩⟩ _ HO.out HFF.out (H0.out.trans HB)).mono ?_
  rintro e w2 ⟨rfl, hb⟩
  replace HB := HB.trans hb
  clear hb hp0
  go_wp2
  refine bodyPost_end (results_none rfl _ _ _) rfl ?_
  exact ⟨rfl, HW.out.trans HB⟩
end Go.Proofs.YtgfbikknkcaneaaGreat
