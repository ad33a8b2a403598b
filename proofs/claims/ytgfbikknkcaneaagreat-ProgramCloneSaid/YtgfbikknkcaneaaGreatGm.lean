/- The walk of the reference's equality of programs. No condition but that they lie in memory. What a program's check answers hangs on its contents alone, not on the places of its lists: plain law. No condition. -/
import Derived.Test.YtgfbikknkcaneaaGreatGn
import Derived.Test.YtgfbikknkcaneaaGreatGl
import Derived.Test.YtgfbikknkcaneaaGreatGe
import Derived.Test.YtgfbikknkcaneaaGreatGf
namespace Go.Proofs.YtgfbikknkcaneaaGreat
open Go.RowKit

set_option maxRecDepth 100000 in
set_option maxHeartbeats 16000000 in
theorem rdata_any (x y : ProgD) (w : World) (hx : ProgOk w x) (hy : ProgOk w y) :
    Calls Tryz.prog 82 #[.agg (progCells x), .agg (progCells y)] w fun e w' => Says e (x.headers.l.map HeaderD.bare = y.headers.l.map HeaderD.bare ∧ x.metadata.l = y.metadata.l ∧ x.registers.l = y.registers.l) ∧ Below w.heap.size w w' := by
  obtain ⟨xn, ⟨ahl, ahA, ahc⟩, ⟨aml, amA, amc⟩, ⟨arl, arA, arc⟩, ⟨aal, aaA, aac⟩, ⟨atl, atA, atc⟩, ⟨asl, asA, asc⟩, ⟨acl, acA, acc⟩, ⟨adl, adA, adc⟩⟩ := x
  obtain ⟨yn, ⟨bhl, bhA, bhc⟩, ⟨bml, bmA, bmc⟩, ⟨brl, brA, brc⟩, ⟨bal, baA, bac⟩, ⟨btl, btA, btc⟩, ⟨bsl, bsA, bsc⟩, ⟨bcl, bcA, bcc⟩, ⟨bdl, bdA, bdc⟩⟩ := y
  obtain ⟨W, hW, hw, HB, hp⟩ := box2 w #[.string xn, .slice ahA ahl.length ahc, .slice amA aml.length amc, .slice arA arl.length arc, .slice aaA aal.length aac, .slice atA atl.length atc, .slice asA asl.length asc, .slice acA acl.length acc, .slice adA adl.length adc] 31 #[.string yn, .slice bhA bhl.length bhc, .slice bmA bml.length bmc, .slice brA brl.length brc, .slice baA bal.length bac, .slice btA btl.length btc, .slice bsA bsl.length bsc, .slice bcA bcl.length bcc, .slice bdA bdl.length bdc] 31
  have HW := Lib.hid hw
  have HX := Lib.hid hx
  have HY := Lib.hid hy
  have hm1 : ahl.length ≤ 9223372036854775807 := hx.headers.1
  have hm2 : arl.length ≤ 9223372036854775807 := hx.registers.1
  have hm3 : aal.length ≤ 9223372036854775807 := hx.actions.1
  have hm4 : atl.length ≤ 9223372036854775807 := hx.tables.1
  have hm5 : asl.length ≤ 9223372036854775807 := hx.states.1
  clear hx hy hw
  simp only [progCells] at *
  go_enter Tryz.func82, Tryz.ntmps82
  go_upto_region 1 with fail
  rw [← hW]
  clear hW
  by_cases hL : ahl.length = bhl.length
  case neg =>
    have hl0 : (((ahl.length : Nat) : Int) == ((bhl.length : Nat) : Int)) = false := by rw [beq_eq_false_iff_ne]; omega
    have hl1 : ¬ ((ahl.length : Nat) : Int) = ((bhl.length : Nat) : Int) := by omega
    have HN := Lib.hid hL
    clear hL
    go_wp2
    go_ret
    exact ⟨Says.no (fun e => HN.out (by simpa using congrArg List.length e.1)), below_step HW.out HB⟩
  have HL0 := Lib.hid hL
  have hl0 : (((ahl.length : Nat) : Int) == ((bhl.length : Nat) : Int)) = true := by rw [beq_iff_eq]; omega
  have hm0 : ((ahl.length : Nat) : Int) = ((bhl.length : Nat) : Int) := by omega
  clear hL
  go_wp2_with fail
  refine (requal_field ⟨aml, amA, amc⟩ ⟨bml, bmA, bmc⟩ _ (HX.out.metadata.below (below_step HW.out HB) (Nat.le_refl _)) (HY.out.metadata.below (below_step HW.out HB) (Nat.le_refl _))).mono ?_
  rintro e w1 ⟨⟨b, rfl, hb⟩, hbN⟩
  replace HB := below_step HB hbN
  have HE1 := Lib.hid hb
  clear hbN hb
  cases b
  case false =>
    go_wp2
    go_ret
    exact ⟨Says.no (fun e => by have h := HE1.out.2 e.2.1; cases h), below_step HW.out HB⟩
  by_cases hL : arl.length = brl.length
  case neg =>
    have hl0 : (((arl.length : Nat) : Int) == ((brl.length : Nat) : Int)) = false := by rw [beq_eq_false_iff_ne]; omega
    have hl1 : ¬ ((arl.length : Nat) : Int) = ((brl.length : Nat) : Int) := by omega
    have HN := Lib.hid hL
    clear hL
    go_wp2
    go_ret
    exact ⟨Says.no (fun e => HN.out (by rw [e.2.2])), below_step HW.out HB⟩
  have HL2 := Lib.hid hL
  have hl2 : (((arl.length : Nat) : Int) == ((brl.length : Nat) : Int)) = true := by rw [beq_iff_eq]; omega
  have hm2 : ((arl.length : Nat) : Int) = ((brl.length : Nat) : Int) := by omega
  clear hL
  go_wp2
  clear hl0 hm0 hl2 hm2
  have HBa := Lib.hid HB
  clear HB
  go_loopw [5] (fun iv wr => ∃ k : Nat, k ≤ ahl.length ∧ iv = .int .i64 k ∧ Hid ((ahl.take k).map HeaderD.bare = (bhl.take k).map HeaderD.bare) ∧ Below W.heap.size W wr) (fun i _ => ahl.length - (intOf i).toNat)
  case atStart => exact ⟨0, Nat.zero_le _, rfl, Lib.hid rfl, HBa.out⟩
  case round =>
  obtain ⟨ka, hka, rfl, HKa, HB⟩ := hrel
  by_cases hlt : ka < ahl.length
  · have hlt2 : ka < bhl.length := by have := HL0.out; omega
    obtain ⟨g, of, hA, hall⟩ := HeaderD.atA (HX.out.headers.below (below_step HW.out HB) (Nat.le_refl _)) hlt
    obtain ⟨g2, of2, hA2, hall2⟩ := HeaderD.atA (HY.out.headers.below (below_step HW.out HB) (Nat.le_refl _)) hlt2
    simp only at hA hA2
    subst hA hA2
    simp only at hall hall2
    have hq := fun w' (h : Below wr.heap.size wr w') => hp w' (below_step HB h)
    have HS : Hid (ahl[ka].bare = bhl[ka].bare → (ahl.take (ka + 1)).map HeaderD.bare = (bhl.take (ka + 1)).map HeaderD.bare) := Lib.hid (take_bare hlt hlt2 HKa.out)
    have HN : Hid (ahl.map HeaderD.bare = bhl.map HeaderD.bare → ahl[ka].bare = bhl[ka].bare) := Lib.hid (map_get hlt hlt2)
    have HO : Hid (∀ u, Below wr.heap.size wr u → _) := Lib.hid (fun u hb => requal_field ahl[ka].fields bhl[ka].fields u ((HX.out.hdr _ (List.getElem_mem hlt)).fields.below (below_step HW.out (below_step HB hb)) (Nat.le_refl _)) ((HY.out.hdr _ (List.getElem_mem hlt2)).fields.below (below_step HW.out (below_step HB hb)) (Nat.le_refl _)))
    generalize ahl[ka] = a at *
    generalize bhl[ka] = b at *
    have hi1 : (ka : Int) < (ahl.length : Int) := by omega
    have hi2 : (ka : Int) < (bhl.length : Int) := by omega
    have H0 := Lib.hid (Below.refl wr.heap.size wr)
    have hB0 : Below wr.heap.size wr wr := Below.refl _ _
    have HBw := Lib.hid HB
    clear HB hp
    by_cases hN : a.name = b.name
    case neg =>
      have hb1 : (a.name.toList == b.name.toList) = false := toList_false hN
      have hb2 : (a.name.toList != b.name.toList) = true := by rw [bne, hb1]; rfl
      have HN2 : Hid (¬ ahl.map HeaderD.bare = bhl.map HeaderD.bare) := Lib.hid (fun e => hN (congrArg HeaderP.name (HN.out e)))
      clear hN HN HS
      have q0 := hq wr hB0
      have q1 := hall wr hB0
      have q2 := hall2 wr hB0
      clear hq hall hall2
      go_upto_region 6 with fail
      go_quiet (fail)
      go_wp2
      go_ret
      exact ⟨Says.no (fun e => HN2.out e.1), below_step HW.out (below_drewN HBw.out _)⟩
    have hb1 : (a.name.toList == b.name.toList) = true := toList_true hN
    have hb2 : (a.name.toList != b.name.toList) = false := by rw [bne, hb1]; rfl
    have HEn := Lib.hid hN
    clear hN
    go_upto_region 6 with fail
    go_region_held3 (fun w' => Below wr.heap.size wr w') (first | exact H0.out | exact below_drew H0.out | (exact below_step (by assumption) (by assumption)) | assumption)
      (first | (go_at_call 141; with_reducible (refine (HO.out _ (by assumption)).mono ?_); rintro e w5 ⟨hs, hb1⟩; unfold Says at hs; obtain ⟨r, rfl, hr⟩ := hs; have HR := Lib.hid hr; clear hr))
    have HB5 : Hid (Below wr.heap.size wr _) := Lib.hid (by assumption)
    cases r with
    | false =>
      have HN2 : Hid (¬ ahl.map HeaderD.bare = bhl.map HeaderD.bare) := Lib.hid (fun e => by have h := HR.out.2 (congrArg HeaderP.fields (HN.out e)); cases h)
      clear HN HS
      go_wp2
      go_ret
      exact ⟨Says.no (fun e => HN2.out e.1), below_step HW.out (below_step HBw.out HB5.out)⟩
    | true =>
      have HS2 := Lib.hid (HS.out (by show HeaderP.mk _ _ = HeaderP.mk _ _; rw [HEn.out, HR.out.1 (by trivial)]))
      clear HN HS
      go_wp2
      go_roundw
      case rel => exact ⟨ka + 1, by omega, by go_num, HS2, below_step HBw.out HB5.out⟩
      case measure => simp [intOf]; omega
  have hk' : ka = ahl.length := by omega
  subst hk'
  have HFa : Hid (ahl.map HeaderD.bare = bhl.map HeaderD.bare) := Lib.hid (by have := HKa.out; rw [List.take_length, HL0.out, List.take_length] at this; exact this)
  clear HKa
  go_wp2
  have HBb := Lib.hid HB
  clear HB
  go_loopw [6] (fun iv wr => ∃ k : Nat, k ≤ arl.length ∧ iv = .int .i64 k ∧ Hid (arl.take k = brl.take k) ∧ Below W.heap.size W wr) (fun i _ => arl.length - (intOf i).toNat)
  case atStart => exact ⟨0, Nat.zero_le _, rfl, Lib.hid rfl, HBb.out⟩
  case round =>
  obtain ⟨kb, hkb, rfl, HKb, HB⟩ := hrel
  by_cases hlt : kb < arl.length
  · have hlt2 : kb < brl.length := by have := HL2.out; omega
    obtain ⟨g, of, hA, d0, d1, d2⟩ := RegD.at (HX.out.registers.below (below_step HW.out HB) (Nat.le_refl _)) hlt
    obtain ⟨g2, of2, hA2, e0, e1, e2⟩ := RegD.at (HY.out.registers.below (below_step HW.out HB) (Nat.le_refl _)) hlt2
    simp only at hA hA2
    subst hA hA2
    try simp only at d0 d1 d2 e0 e1 e2
    have HS : Hid (arl[kb] = brl[kb] → arl.take (kb + 1) = brl.take (kb + 1)) := Lib.hid (take_step hlt hlt2 HKb.out)
    have HN : Hid (¬ arl[kb] = brl[kb] → ¬ arl = brl) := Lib.hid (fun h e => h (by subst e; rfl))
    generalize arl[kb] = a at *
    generalize brl[kb] = b at *
    have hi1 : (kb : Int) < (arl.length : Int) := by omega
    have hi2 : (kb : Int) < (brl.length : Int) := by omega
    have hp0 := hp _ HB
    obtain ⟨bb, hb0, hbb⟩ := neq_reg a b
    have HBB := Lib.hid hb0
    clear hb0
    have HBw := Lib.hid HB
    clear hp
    cases bb with
    | true =>
      have HN2 := Lib.hid (HN.out (by intro e; have := HBB.out.2 e; cases this))
      clear HN HS
      go_upto_region 11 with fail
      go_quiet (fail)
      go_wp2
      go_ret
      exact ⟨Says.no (fun e => HN2.out e.2.2), below_step HW.out (below_drewN HBw.out _)⟩
    | false =>
      have HS2 := Lib.hid (HS.out (HBB.out.1 rfl))
      clear HN HS
      go_upto_region 11 with fail
      go_quiet (fail)
      go_wp2
      go_roundw
      case rel => exact ⟨kb + 1, by omega, by go_num, HS2, below_drewN HBw.out _⟩
      case measure => simp [intOf]; omega
  have hk' : kb = arl.length := by omega
  subst hk'
  have HFb : Hid (arl = brl) := Lib.hid (by have := HKb.out; rw [List.take_length, HL2.out, List.take_length] at this; exact this)
  clear HKb
  go_wp2
  go_ret
  exact ⟨Says.yes ⟨HFa.out, HE1.out.1 (by trivial), HFb.out⟩, below_step HW.out HB⟩
set_option maxRecDepth 100000 in
set_option maxHeartbeats 16000000 in
theorem requal_any (x y : ProgD) (w : World) (hx : ProgOk w x) (hy : ProgOk w y) :
    Calls Tryz.prog 22 #[.agg (progCells x), .agg (progCells y)] w fun e w' => Says e (x.bare = y.bare) ∧ Below w.heap.size w w' := by
  have hD : ∀ u, Below w.heap.size w u → Calls Tryz.prog 82 #[.agg (progCells x), .agg (progCells y)] u fun e w2 => Says e (x.headers.l.map HeaderD.bare = y.headers.l.map HeaderD.bare ∧ x.metadata.l = y.metadata.l ∧ x.registers.l = y.registers.l) ∧ Below u.heap.size u w2 := fun u hb => rdata_any x y u (hx.below hb) (hy.below hb)
  obtain ⟨xn, ⟨ahl, ahA, ahc⟩, ⟨aml, amA, amc⟩, ⟨arl, arA, arc⟩, ⟨aal, aaA, aac⟩, ⟨atl, atA, atc⟩, ⟨asl, asA, asc⟩, ⟨acl, acA, acc⟩, ⟨adl, adA, adc⟩⟩ := x
  obtain ⟨yn, ⟨bhl, bhA, bhc⟩, ⟨bml, bmA, bmc⟩, ⟨brl, brA, brc⟩, ⟨bal, baA, bac⟩, ⟨btl, btA, btc⟩, ⟨bsl, bsA, bsc⟩, ⟨bcl, bcA, bcc⟩, ⟨bdl, bdA, bdc⟩⟩ := y
  obtain ⟨W, hW, hw, HB, hp⟩ := box2 w #[.string xn, .slice ahA ahl.length ahc, .slice amA aml.length amc, .slice arA arl.length arc, .slice aaA aal.length aac, .slice atA atl.length atc, .slice asA asl.length asc, .slice acA acl.length acc, .slice adA adl.length adc] 31 #[.string yn, .slice bhA bhl.length bhc, .slice bmA bml.length bmc, .slice brA brl.length brc, .slice baA bal.length bac, .slice btA btl.length btc, .slice bsA bsl.length bsc, .slice bcA bcl.length bcc, .slice bdA bdl.length bdc] 31
  have HW := Lib.hid hw
  have HD := Lib.hid hD
  clear hD
  have HX := Lib.hid hx
  have HY := Lib.hid hy
  have hm1 : ahl.length ≤ 9223372036854775807 := hx.headers.1
  have hm2 : arl.length ≤ 9223372036854775807 := hx.registers.1
  have hm3 : aal.length ≤ 9223372036854775807 := hx.actions.1
  have hm4 : atl.length ≤ 9223372036854775807 := hx.tables.1
  have hm5 : asl.length ≤ 9223372036854775807 := hx.states.1
  clear hx hy hw
  simp only [progCells] at *
  go_enter Tryz.func22, Tryz.ntmps22
  go_upto_region 1 with fail
  rw [← hW]
  clear hW
  by_cases hN : xn = yn
  case neg =>
    have hB : (xn.toList == yn.toList) = false := toList_false hN
    have hB2 : (xn.toList != yn.toList) = true := by rw [bne, hB]; rfl
    have HN := Lib.hid hN
    clear hN
    go_wp2
    go_ret
    exact ⟨Says.no (fun e => HN.out (congrArg ProgP.name e)), below_step HW.out HB⟩
  have hB0 : (xn.toList == yn.toList) = true := toList_true hN
  have hC0 : (xn.toList != yn.toList) = false := by rw [bne, hB0]; rfl
  have HE0 := Lib.hid hN
  clear hN
  go_wp2_with fail
  refine (HD.out _ (below_step HW.out HB)).mono ?_
  rintro e w1 ⟨⟨b, rfl, hb⟩, hbN⟩
  replace HB := below_step HB hbN
  have HE1 := Lib.hid hb
  clear hbN hb HD
  cases b
  case false =>
    go_wp2
    go_ret
    exact ⟨Says.no (fun e => by have h := HE1.out.2 ⟨congrArg ProgP.headers e, congrArg ProgP.metadata e, congrArg ProgP.registers e⟩; cases h), below_step HW.out HB⟩
  by_cases hL : aal.length = bal.length
  case neg =>
    have hl0 : (((aal.length : Nat) : Int) == ((bal.length : Nat) : Int)) = false := by rw [beq_eq_false_iff_ne]; omega
    have hl1 : ¬ ((aal.length : Nat) : Int) = ((bal.length : Nat) : Int) := by omega
    have HN := Lib.hid hL
    clear hL
    go_wp2
    go_ret
    exact ⟨Says.no (fun e => HN.out (by simpa [ProgD.bare, TabD.bare, StateD.bare] using congrArg (fun z => (ProgP.actions z).length) e)), below_step HW.out HB⟩
  have HL2 := Lib.hid hL
  have hl2 : (((aal.length : Nat) : Int) == ((bal.length : Nat) : Int)) = true := by rw [beq_iff_eq]; omega
  have hm2 : ((aal.length : Nat) : Int) = ((bal.length : Nat) : Int) := by omega
  clear hL
  by_cases hL : atl.length = btl.length
  case neg =>
    have hl0 : (((atl.length : Nat) : Int) == ((btl.length : Nat) : Int)) = false := by rw [beq_eq_false_iff_ne]; omega
    have hl1 : ¬ ((atl.length : Nat) : Int) = ((btl.length : Nat) : Int) := by omega
    have HN := Lib.hid hL
    clear hL
    go_wp2
    go_ret
    exact ⟨Says.no (fun e => HN.out (by simpa [ProgD.bare, TabD.bare, StateD.bare] using congrArg (fun z => (ProgP.tables z).length) e)), below_step HW.out HB⟩
  have HL3 := Lib.hid hL
  have hl3 : (((atl.length : Nat) : Int) == ((btl.length : Nat) : Int)) = true := by rw [beq_iff_eq]; omega
  have hm3 : ((atl.length : Nat) : Int) = ((btl.length : Nat) : Int) := by omega
  clear hL
  by_cases hL : asl.length = bsl.length
  case neg =>
    have hl0 : (((asl.length : Nat) : Int) == ((bsl.length : Nat) : Int)) = false := by rw [beq_eq_false_iff_ne]; omega
    have hl1 : ¬ ((asl.length : Nat) : Int) = ((bsl.length : Nat) : Int) := by omega
    have HN := Lib.hid hL
    clear hL
    go_wp2
    go_ret
    exact ⟨Says.no (fun e => HN.out (by simpa [ProgD.bare, TabD.bare, StateD.bare] using congrArg (fun z => (ProgP.states z).length) e)), below_step HW.out HB⟩
  have HL4 := Lib.hid hL
  have hl4 : (((asl.length : Nat) : Int) == ((bsl.length : Nat) : Int)) = true := by rw [beq_iff_eq]; omega
  have hm4 : ((asl.length : Nat) : Int) = ((bsl.length : Nat) : Int) := by omega
  clear hL
  go_wp2
  clear hl2 hm2 hl3 hm3 hl4 hm4
  have HBa := Lib.hid HB
  clear HB
  go_loopw [5] (fun iv wr => ∃ k : Nat, k ≤ aal.length ∧ iv = .int .i64 k ∧ Hid ((aal.take k).map ActD.bare = (bal.take k).map ActD.bare) ∧ Below W.heap.size W wr) (fun i _ => aal.length - (intOf i).toNat)
  case atStart => exact ⟨0, Nat.zero_le _, rfl, Lib.hid rfl, HBa.out⟩
  case round =>
  obtain ⟨ka, hka, rfl, HKa, HB⟩ := hrel
  by_cases hlt : ka < aal.length
  · have hlt2 : ka < bal.length := by have := HL2.out; omega
    obtain ⟨g, of, hA, hall⟩ := ActD.atA (HX.out.actions.below (below_step HW.out HB) (Nat.le_refl _)) hlt
    obtain ⟨g2, of2, hA2, hall2⟩ := ActD.atA (HY.out.actions.below (below_step HW.out HB) (Nat.le_refl _)) hlt2
    simp only at hA hA2
    subst hA hA2
    simp only at hall hall2
    have hq := fun w' (h : Below wr.heap.size wr w') => hp w' (below_step HB h)
    have HS : Hid (aal[ka].bare = bal[ka].bare → (aal.take (ka + 1)).map ActD.bare = (bal.take (ka + 1)).map ActD.bare) := Lib.hid (take_bare hlt hlt2 HKa.out)
    have HN : Hid (aal.map ActD.bare = bal.map ActD.bare → aal[ka].bare = bal[ka].bare) := Lib.hid (map_get hlt hlt2)
    have HO : Hid (∀ u, Below wr.heap.size wr u → _) := Lib.hid (fun u hb => raction_any aal[ka] bal[ka] u ((HX.out.act _ (List.getElem_mem hlt)).below (below_step HW.out (below_step HB hb))) ((HY.out.act _ (List.getElem_mem hlt2)).below (below_step HW.out (below_step HB hb))))
    generalize aal[ka] = a at *
    generalize bal[ka] = b at *
    have hi1 : (ka : Int) < (aal.length : Int) := by omega
    have hi2 : (ka : Int) < (bal.length : Int) := by omega
    have H0 := Lib.hid (Below.refl wr.heap.size wr)
    have hB0 : Below wr.heap.size wr wr := Below.refl _ _
    have HBw := Lib.hid HB
    clear HB hp
    go_upto_region 6 with fail
    go_region_held3 (fun w' => Below wr.heap.size wr w') (first | exact H0.out | exact below_drew H0.out | (exact below_step (by assumption) (by assumption)) | assumption)
      (first | (go_at_call 83; with_reducible (refine (HO.out _ (by assumption)).mono ?_); rintro e w5 ⟨hs, hb1⟩; unfold Says at hs; obtain ⟨r, rfl, hr⟩ := hs; have HR := Lib.hid hr; clear hr))
    have HB5 : Hid (Below wr.heap.size wr _) := Lib.hid (by assumption)
    cases r with
    | false =>
      have HN2 : Hid (¬ aal.map ActD.bare = bal.map ActD.bare) := Lib.hid (fun e => by have h := HR.out.2 (HN.out e); cases h)
      clear HN HS
      go_wp2
      go_ret
      exact ⟨Says.no (fun e => HN2.out (congrArg ProgP.actions e)), below_step HW.out (below_step HBw.out HB5.out)⟩
    | true =>
      have HS2 := Lib.hid (HS.out (HR.out.1 (by trivial)))
      clear HN HS
      go_wp2
      go_roundw
      case rel => exact ⟨ka + 1, by omega, by go_num, HS2, below_step HBw.out HB5.out⟩
      case measure => simp [intOf]; omega
  have hk' : ka = aal.length := by omega
  subst hk'
  have HFa : Hid (aal.map ActD.bare = bal.map ActD.bare) := Lib.hid (by have := HKa.out; rw [List.take_length, HL2.out, List.take_length] at this; exact this)
  clear HKa
  go_wp2
  have HBb := Lib.hid HB
  clear HB
  go_loopw [6] (fun iv wr => ∃ k : Nat, k ≤ atl.length ∧ iv = .int .i64 k ∧ Hid ((atl.take k).map TabD.bare = (btl.take k).map TabD.bare) ∧ Below W.heap.size W wr) (fun i _ => atl.length - (intOf i).toNat)
  case atStart => exact ⟨0, Nat.zero_le _, rfl, Lib.hid rfl, HBb.out⟩
  case round =>
  obtain ⟨kb, hkb, rfl, HKb, HB⟩ := hrel
  by_cases hlt : kb < atl.length
  · have hlt2 : kb < btl.length := by have := HL3.out; omega
    obtain ⟨g, of, hA, hall⟩ := TabD.atA (HX.out.tables.below (below_step HW.out HB) (Nat.le_refl _)) hlt
    obtain ⟨g2, of2, hA2, hall2⟩ := TabD.atA (HY.out.tables.below (below_step HW.out HB) (Nat.le_refl _)) hlt2
    simp only at hA hA2
    subst hA hA2
    simp only at hall hall2
    have hq := fun w' (h : Below wr.heap.size wr w') => hp w' (below_step HB h)
    have HS : Hid (atl[kb].bare = btl[kb].bare → (atl.take (kb + 1)).map TabD.bare = (btl.take (kb + 1)).map TabD.bare) := Lib.hid (take_bare hlt hlt2 HKb.out)
    have HN : Hid (atl.map TabD.bare = btl.map TabD.bare → atl[kb].bare = btl[kb].bare) := Lib.hid (map_get hlt hlt2)
    have HO : Hid (∀ u, Below wr.heap.size wr u → _) := Lib.hid (fun u hb => rtable_any atl[kb] btl[kb] u ((HX.out.tab _ (List.getElem_mem hlt)).below (below_step HW.out (below_step HB hb))) ((HY.out.tab _ (List.getElem_mem hlt2)).below (below_step HW.out (below_step HB hb))))
    generalize atl[kb] = a at *
    generalize btl[kb] = b at *
    have hi1 : (kb : Int) < (atl.length : Int) := by omega
    have hi2 : (kb : Int) < (btl.length : Int) := by omega
    have H0 := Lib.hid (Below.refl wr.heap.size wr)
    have hB0 : Below wr.heap.size wr wr := Below.refl _ _
    have HBw := Lib.hid HB
    clear HB hp
    go_upto_region 11 with fail
    go_region_held3 (fun w' => Below wr.heap.size wr w') (first | exact H0.out | exact below_drew H0.out | (exact below_step (by assumption) (by assumption)) | assumption)
      (first | (go_at_call 84; with_reducible (refine (HO.out _ (by assumption)).mono ?_); rintro e w5 ⟨hs, hb1⟩; unfold Says at hs; obtain ⟨r, rfl, hr⟩ := hs; have HR := Lib.hid hr; clear hr))
    have HB5 : Hid (Below wr.heap.size wr _) := Lib.hid (by assumption)
    cases r with
    | false =>
      have HN2 : Hid (¬ atl.map TabD.bare = btl.map TabD.bare) := Lib.hid (fun e => by have h := HR.out.2 (HN.out e); cases h)
      clear HN HS
      go_wp2
      go_ret
      exact ⟨Says.no (fun e => HN2.out (congrArg ProgP.tables e)), below_step HW.out (below_step HBw.out HB5.out)⟩
    | true =>
      have HS2 := Lib.hid (HS.out (HR.out.1 (by trivial)))
      clear HN HS
      go_wp2
      go_roundw
      case rel => exact ⟨kb + 1, by omega, by go_num, HS2, below_step HBw.out HB5.out⟩
      case measure => simp [intOf]; omega
  have hk' : kb = atl.length := by omega
  subst hk'
  have HFb : Hid (atl.map TabD.bare = btl.map TabD.bare) := Lib.hid (by have := HKb.out; rw [List.take_length, HL3.out, List.take_length] at this; exact this)
  clear HKb
  go_wp2
  have HBc := Lib.hid HB
  clear HB
  go_loopw [7] (fun iv wr => ∃ k : Nat, k ≤ asl.length ∧ iv = .int .i64 k ∧ Hid ((asl.take k).map StateD.bare = (bsl.take k).map StateD.bare) ∧ Below W.heap.size W wr) (fun i _ => asl.length - (intOf i).toNat)
  case atStart => exact ⟨0, Nat.zero_le _, rfl, Lib.hid rfl, HBc.out⟩
  case round =>
  obtain ⟨kc, hkc, rfl, HKc, HB⟩ := hrel
  by_cases hlt : kc < asl.length
  · have hlt2 : kc < bsl.length := by have := HL4.out; omega
    obtain ⟨g, of, hA, hall⟩ := StateD.atA (HX.out.states.below (below_step HW.out HB) (Nat.le_refl _)) hlt
    obtain ⟨g2, of2, hA2, hall2⟩ := StateD.atA (HY.out.states.below (below_step HW.out HB) (Nat.le_refl _)) hlt2
    simp only at hA hA2
    subst hA hA2
    simp only at hall hall2
    have hq := fun w' (h : Below wr.heap.size wr w') => hp w' (below_step HB h)
    have HS : Hid (asl[kc].bare = bsl[kc].bare → (asl.take (kc + 1)).map StateD.bare = (bsl.take (kc + 1)).map StateD.bare) := Lib.hid (take_bare hlt hlt2 HKc.out)
    have HN : Hid (asl.map StateD.bare = bsl.map StateD.bare → asl[kc].bare = bsl[kc].bare) := Lib.hid (map_get hlt hlt2)
    have HO : Hid (∀ u, Below wr.heap.size wr u → _) := Lib.hid (fun u hb => rstate_any asl[kc] bsl[kc] u ((HX.out.state _ (List.getElem_mem hlt)).below (below_step HW.out (below_step HB hb))) ((HY.out.state _ (List.getElem_mem hlt2)).below (below_step HW.out (below_step HB hb))))
    generalize asl[kc] = a at *
    generalize bsl[kc] = b at *
    have hi1 : (kc : Int) < (asl.length : Int) := by omega
    have hi2 : (kc : Int) < (bsl.length : Int) := by omega
    have H0 := Lib.hid (Below.refl wr.heap.size wr)
    have hB0 : Below wr.heap.size wr wr := Below.refl _ _
    have HBw := Lib.hid HB
    clear HB hp
    go_upto_region 16 with fail
    go_region_held3 (fun w' => Below wr.heap.size wr w') (first | exact H0.out | exact below_drew H0.out | (exact below_step (by assumption) (by assumption)) | assumption)
      (first | (go_at_call 85; with_reducible (refine (HO.out _ (by assumption)).mono ?_); rintro e w5 ⟨hs, hb1⟩; unfold Says at hs; obtain ⟨r, rfl, hr⟩ := hs; have HR := Lib.hid hr; clear hr))
    have HB5 : Hid (Below wr.heap.size wr _) := Lib.hid (by assumption)
    cases r with
    | false =>
      have HN2 : Hid (¬ asl.map StateD.bare = bsl.map StateD.bare) := Lib.hid (fun e => by have h := HR.out.2 (HN.out e); cases h)
      clear HN HS
      go_wp2
      go_ret
      exact ⟨Says.no (fun e => HN2.out (congrArg ProgP.states e)), below_step HW.out (below_step HBw.out HB5.out)⟩
    | true =>
      have HS2 := Lib.hid (HS.out (HR.out.1 (by trivial)))
      clear HN HS
      go_wp2
      go_roundw
      case rel => exact ⟨kc + 1, by omega, by go_num, HS2, below_step HBw.out HB5.out⟩
      case measure => simp [intOf]; omega
  have hk' : kc = asl.length := by omega
  subst hk'
  have HFc : Hid (asl.map StateD.bare = bsl.map StateD.bare) := Lib.hid (by have := HKc.out; rw [List.take_length, HL4.out, List.take_length] at this; exact this)
  clear HKc
  go_wp2_with fail
  refine (rctl_any _ ⟨acl, acA, acc⟩ ⟨bcl, bcA, bcc⟩ _ (Nat.lt_succ_self _) (HX.out.control.below (below_step HW.out HB) (Nat.le_refl _)) (fun s hs => ctls_mem (CtlsOk.below (below_step HW.out HB) HX.out.ctl) hs) (HY.out.control.below (below_step HW.out HB) (Nat.le_refl _)) (fun s hs => ctls_mem (CtlsOk.below (below_step HW.out HB) HY.out.ctl) hs)).mono ?_
  rintro e w1 ⟨⟨b, rfl, hb⟩, q, rfl⟩
  replace HB := below_drewN HB q
  have HE5 := Lib.hid hb
  clear hb
  cases b
  case false =>
    go_wp2
    go_ret
    exact ⟨Says.no (fun e => by have h := HE5.out.2 (congrArg ProgP.control e); cases h), below_step HW.out HB⟩
  go_wp2_with fail
  refine (requal_int ⟨adl, adA, adc⟩ ⟨bdl, bdA, bdc⟩ _ (HX.out.deparser.below (below_step HW.out HB) (Nat.le_refl _)) (HY.out.deparser.below (below_step HW.out HB) (Nat.le_refl _))).mono ?_
  rintro e w1 ⟨⟨b, rfl, hb⟩, hbN⟩
  replace HB := below_step HB hbN
  have HE6 := Lib.hid hb
  clear hbN hb
  cases b
  case false =>
    go_wp2
    go_ret
    exact ⟨Says.no (fun e => by have h := HE6.out.2 (congrArg ProgP.deparser e); cases h), below_step HW.out HB⟩
  go_wp2
  go_ret
  exact ⟨Says.yes (by show ProgP.mk _ _ _ _ _ _ _ _ _ = ProgP.mk _ _ _ _ _ _ _ _ _; rw [HE0.out, (HE1.out.1 (by trivial)).1, (HE1.out.1 (by trivial)).2.1, (HE1.out.1 (by trivial)).2.2, HFa.out, HFb.out, HFc.out, HE5.out.1 (by trivial), HE6.out.1 (by trivial)]), below_step HW.out HB⟩
end Go.Proofs.YtgfbikknkcaneaaGreat
namespace Go.Proofs.YtgfbikknkcaneaaGreat
open Go.RowKit

/-- the same contents -/
structure Same (p q : ProgD) : Prop where
  name : p.name = q.name
  headers : p.headers.l.map HeaderD.bare = q.headers.l.map HeaderD.bare
  metadata : p.metadata.l = q.metadata.l
  registers : p.registers.l = q.registers.l
  actions : p.actions.l.map ActD.bare = q.actions.l.map ActD.bare
  tables : p.tables.l.map TabD.bare = q.tables.l.map TabD.bare
  states : p.states.l.map StateD.bare = q.states.l.map StateD.bare
  control : p.control.l.map CtlD.bare = q.control.l.map CtlD.bare
  deparser : p.deparser.l = q.deparser.l
theorem Same.of {p q : ProgD} (h : p.bare = q.bare) : Same p q :=
  ⟨congrArg ProgP.name h, congrArg ProgP.headers h, congrArg ProgP.metadata h, congrArg ProgP.registers h, congrArg ProgP.actions h, congrArg ProgP.tables h, congrArg ProgP.states h, congrArg ProgP.control h, congrArg ProgP.deparser h⟩
theorem len_bare {α β : Type} {f : α → β} {l m : List α} (h : l.map f = m.map f) : l.length = m.length := by simpa using congrArg List.length h
/-- the elements at a place: none in both, or alike -/
theorem get_bare {α β : Type} {f : α → β} {l m : List α} (h : l.map f = m.map f) (i : Nat) : (l[i]? = none ∧ m[i]? = none) ∨ ∃ a b, l[i]? = some a ∧ m[i]? = some b ∧ f a = f b := by
  have hl := len_bare h
  by_cases hi : i < l.length
  · have hi2 : i < m.length := by omega
    exact .inr ⟨l[i], m[i], List.getElem?_eq_getElem hi, List.getElem?_eq_getElem hi2, map_get hi hi2 h⟩
  · exact .inl ⟨List.getElem?_eq_none (by omega), List.getElem?_eq_none (by omega)⟩
theorem map_bare {α β γ : Type} {f : α → β} {g : α → γ} (hg : ∀ a b, f a = f b → g a = g b) {l m : List α} (h : l.map f = m.map f) : l.map g = m.map g := by
  have hl := len_bare h
  refine List.ext_getElem (by simpa using hl) fun i h1 h2 => ?_
  simp only [List.length_map] at h1 h2
  simp only [List.getElem_map]
  exact hg _ _ (map_get h1 h2 h)
theorem hdrM_bare {a b : HeaderD} (h : a.bare = b.bare) : hdrM a = hdrM b := by
  have h1 : a.name = b.name := congrArg HeaderP.name h
  have h2 : a.fields.l = b.fields.l := congrArg HeaderP.fields h
  unfold hdrM
  rw [h1, h2]
section
variable {p q : ProgD} (S : Same p q)
include S
theorem Same.lim : limM p = limM q := by
  unfold limM
  rw [S.name, len_bare S.headers, S.registers, len_bare S.actions, len_bare S.tables]
theorem Same.hdrs : hdrsM p = hdrsM q := by
  unfold hdrsM
  rw [len_bare S.headers]
  refine firstE_congr fun i _ => ?_
  unfold hdrAtM
  rw [map_bare (g := HeaderD.name) (fun a b h => congrArg HeaderP.name h) S.headers]
  rcases get_bare S.headers i with ⟨e1, e2⟩ | ⟨a, b, e1, e2, e⟩
  · rw [e1, e2]
  · rw [e1, e2]
    simp only
    rw [hdrM_bare e, show a.name = b.name from congrArg HeaderP.name e]
theorem Same.meta : metaM p = metaM q := by unfold metaM; rw [S.metadata]
theorem Same.regs : regsM p = regsM q := by unfold regsM; rw [S.registers]
theorem Same.decl (h f : Int) : declM p h f = declM q h f := by
  unfold declM declF fieldsOf
  by_cases h1 : h = -1
  · simp only [if_pos h1]
    rw [S.metadata]
  · simp only [if_neg h1]
    by_cases h2 : h < 0
    · simp only [if_pos h2]
    · simp only [if_neg h2]
      rcases get_bare S.headers h.toNat with ⟨e1, e2⟩ | ⟨a, b, e1, e2, e⟩
      · rw [e1, e2]
      · rw [e1, e2]
        simp only [Option.map_some]
        rw [show a.fields.l = b.fields.l from congrArg HeaderP.fields e]
theorem Same.width (h f : Int) : widthAt p h f = widthAt q h f := by
  have e : (fieldsM p h).l = (fieldsM q h).l := by
    unfold fieldsM
    by_cases h1 : h = -1
    · rw [if_pos h1, if_pos h1]; exact S.metadata
    · rw [if_neg h1, if_neg h1]
      unfold headerAt
      by_cases h2 : h < 0
      · rw [if_pos h2, if_pos h2]
      · rw [if_neg h2, if_neg h2]
        rcases get_bare S.headers h.toNat with ⟨e1, e2⟩ | ⟨a, b, e1, e2, e⟩
        · rw [e1, e2]
        · rw [e1, e2]
          exact congrArg HeaderP.fields e
  unfold widthAt fieldAt
  rw [e]
theorem Same.prim (ps : List FieldD) (x : NodeD) : primM p ps x = primM q ps x := by
  unfold primM
  rw [S.decl, len_bare S.headers]
theorem Same.chk (ps : List FieldD) (l : List NodeD) : ∀ m i, chkM p ps l m i = chkM q ps l m i
  | 0, _ => rfl
  | m + 1, i => by
    rw [chkM, chkM]
    simp only [Same.chk ps l m, S.prim]
theorem Same.expr (ps : List FieldD) (l : List NodeD) : exprM p ps l = exprM q ps l := by unfold exprM; simp only [S.chk]
theorem Same.sized (ps : List FieldD) (l : List NodeD) (w : Int) : sizedM p ps l w = sizedM q ps l w := by unfold sizedM; rw [S.expr]
theorem Same.regAt (i : Int) : regAt p i = regAt q i := by unfold Go.Proofs.YtgfbikknkcaneaaGreat.regAt; rw [S.registers]
theorem Same.stmt (ps : List FieldD) {s t : StmtD} (h : s.bare = t.bare) : stmtM p ps s = stmtM q ps t := by
  have h1 : s.kind = t.kind := congrArg StmtP.kind h
  have h2 : s.dh = t.dh := congrArg StmtP.dh h
  have h3 : s.df = t.df := congrArg StmtP.df h
  have h4 : s.reg = t.reg := congrArg StmtP.reg h
  have h5 : s.hdr = t.hdr := congrArg StmtP.hdr h
  have h6 : s.index.l = t.index.l := congrArg StmtP.index h
  have h7 : s.value.l = t.value.l := congrArg StmtP.value h
  unfold stmtM
  rw [h1, h2, h3, h4, h5, h6, h7]
  simp only [S.decl, S.sized, S.expr, S.regAt, len_bare S.headers]
theorem Same.act {a b : ActD} (h : a.bare = b.bare) : actM p a = actM q b := by
  have h1 : a.name = b.name := congrArg ActP.name h
  have h2 : a.params.l = b.params.l := congrArg ActP.params h
  have h3 : a.body.l.map StmtD.bare = b.body.l.map StmtD.bare := congrArg ActP.body h
  have hd : declarM a = declarM b := by unfold declarM; rw [h1, h2, len_bare h3]
  unfold actM
  rw [hd, len_bare h3]
  by_cases hc : declarM b ≠ 0
  · rw [if_pos hc, if_pos hc]
  rw [if_neg hc, if_neg hc]
  rw [firstE_congr (g := fun k : Nat => match b.body.l[k]? with | none => none | some s => if stmtM q b.params.l s ≠ 0 then some ((k : Int), stmtM q b.params.l s) else none) (fun k _ => by
    rcases get_bare h3 k with ⟨e1, e2⟩ | ⟨s, t, e1, e2, e⟩
    · rw [e1, e2]
    · rw [e1, e2]
      simp only
      rw [h2, S.stmt _ e])]
  rfl
theorem Same.acts : actsM p = actsM q := by
  unfold actsM
  rw [len_bare S.actions]
  refine firstE_congr fun i _ => ?_
  unfold actAtM
  rw [map_bare (g := ActD.name) (fun a b h => congrArg ActP.name h) S.actions]
  rcases get_bare S.actions i with ⟨e1, e2⟩ | ⟨a, b, e1, e2, e⟩
  · rw [e1, e2]
  · rw [e1, e2]
    simp only
    rw [S.act e]
theorem Same.call (a : Int) (args : List Int) : callM p a args = callM q a args := by
  unfold callM
  split
  · rfl
  · rcases get_bare S.actions a.toNat with ⟨e1, e2⟩ | ⟨x, y, e1, e2, e⟩
    · rw [e1, e2]
    · rw [e1, e2]
      simp only
      rw [show x.params.l = y.params.l from congrArg ActP.params e]
theorem Same.keys (l : List KeyD) : keysM p l = keysM q l := by
  have h1 : keyAtM p l = keyAtM q l := by funext i; unfold keyAtM; simp only [S.width]
  have h2 : bitsM p l = bitsM q l := by unfold bitsM; simp only [S.width]
  unfold keysM
  rw [h1, h2]
theorem Same.tab {t u : TabD} (h : t.bare = u.bare) : tabM p t = tabM q u := by
  have h1 : t.name = u.name := congrArg TabP.name h
  have h2 : t.keys.l = u.keys.l := congrArg TabP.keys h
  have h3 : t.acts.l = u.acts.l := congrArg TabP.acts h
  have h4 : t.defA = u.defA := congrArg TabP.defA h
  have h5 : t.args.l = u.args.l := congrArg TabP.args h
  have h6 : t.size = u.size := congrArg TabP.size h
  have ha : tactAtM p u.acts.l = tactAtM q u.acts.l := by funext i; unfold tactAtM; rw [len_bare S.actions]
  have hb : tactsM p t = tactsM q u := by unfold tactsM; rw [h3, h4, h5, ha, S.call]
  unfold tabM
  rw [h1, h2, h3, h6, hb, S.keys]
theorem Same.tabs : tabsM p = tabsM q := by
  unfold tabsM
  rw [len_bare S.tables]
  refine firstE_congr fun i _ => ?_
  unfold tabAtM
  rw [map_bare (g := TabD.name) (fun a b h => congrArg TabP.name h) S.tables]
  rcases get_bare S.tables i with ⟨e1, e2⟩ | ⟨a, b, e1, e2, e⟩
  · rw [e1, e2]
  · rw [e1, e2]
    simp only
    rw [S.tab e]
theorem Same.leads (i : Nat) (n : Int) : leadsM p i n = leadsM q i n := by unfold leadsM; rw [len_bare S.states]
theorem Same.state (i : Nat) {s t : StateD} (h : s.bare = t.bare) : stateM p i s = stateM q i t := by
  have h2 : s.extract.l = t.extract.l := congrArg StateP.extract h
  have h3 : s.sel = t.sel := congrArg StateP.sel h
  have h4 : s.oh = t.oh := congrArg StateP.oh h
  have h5 : s.of = t.of := congrArg StateP.of h
  have h6 : s.cases.l = t.cases.l := congrArg StateP.cases h
  have h7 : s.dflt = t.dflt := congrArg StateP.dflt h
  have hc : ∀ w, caseAtM p i w t.cases.l = caseAtM q i w t.cases.l := fun w => by funext k; unfold caseAtM caseM; simp only [S.leads]
  unfold stateM
  rw [h2, h3, h4, h5, h6, h7, S.width, S.leads, len_bare S.headers, hc]
theorem Same.parser : parserM p = parserM q := by
  have h : stateAtM p = stateAtM q := by
    funext i
    unfold stateAtM
    rw [map_bare (g := StateD.name) (fun a b h => congrArg StateP.name h) S.states]
    rcases get_bare S.states i with ⟨e1, e2⟩ | ⟨a, b, e1, e2, e⟩
    · rw [e1, e2]
    · rw [e1, e2]
      simp only
      rw [S.state i e, show a.name = b.name from congrArg StateP.name e]
  unfold parserM
  rw [len_bare S.states, h]
end
mutual
theorem pre_bare : ∀ {x y : CtlD}, x.bare = y.bare → (preM x).map CtlD.bare = (preM y).map CtlD.bare
  | .mk k t c th el tA eA tc ec, .mk k' t' c' th' el' tA' eA' tc' ec', h => by
    have hb := h
    rw [CtlD.bare, CtlD.bare, CtlP.mk.injEq] at h
    rw [preM, preM, List.map_cons, List.map_cons, List.map_append, List.map_append, hb, pres_bare h.2.2.2.1, pres_bare h.2.2.2.2]
theorem pres_bare : ∀ {l m : List CtlD}, CtlD.bares l = CtlD.bares m → (presM l).map CtlD.bare = (presM m).map CtlD.bare
  | [], [], _ => rfl
  | [], y :: m, h => by rw [CtlD.bares, CtlD.bares] at h; cases h
  | x :: l, [], h => by rw [CtlD.bares, CtlD.bares] at h; cases h
  | x :: l, y :: m, h => by
    rw [CtlD.bares, CtlD.bares, List.cons.injEq] at h
    rw [presM, presM, List.map_append, List.map_append, pre_bare h.1, pres_bare h.2]
end
mutual
theorem nest1_bare : ∀ {x y : CtlD}, x.bare = y.bare → nest1M x = nest1M y
  | .mk k t c th el tA eA tc ec, .mk k' t' c' th' el' tA' eA' tc' ec', h => by
    rw [CtlD.bare, CtlD.bare, CtlP.mk.injEq] at h
    rw [nest1M, nest1M, nest_bare h.2.2.2.1, nest_bare h.2.2.2.2]
theorem nest_bare : ∀ {l m : List CtlD}, CtlD.bares l = CtlD.bares m → nestM l = nestM m
  | [], [], _ => rfl
  | [], y :: m, h => by rw [CtlD.bares, CtlD.bares] at h; cases h
  | x :: l, [], h => by rw [CtlD.bares, CtlD.bares] at h; cases h
  | x :: l, y :: m, h => by
    rw [CtlD.bares, CtlD.bares, List.cons.injEq] at h
    rw [nestM, nestM, nest1_bare h.1, nest_bare h.2]
end
theorem used_bare {l m : List CtlD} (h : l.map CtlD.bare = m.map CtlD.bare) : usedM l = usedM m := by
  induction l generalizing m with
  | nil => cases m with
    | nil => rfl
    | cons y m => simp at h
  | cons x l ih => cases m with
    | nil => simp at h
    | cons y m =>
      rw [List.map_cons, List.map_cons, List.cons.injEq, ctl_bare_iff] at h
      have := ih h.2
      unfold usedM at this ⊢
      have ha : appliesM x = appliesM y := by unfold appliesM; rw [h.1.1]
      rw [List.filter_cons, List.filter_cons, ha]
      split
      · rw [List.map_cons, List.map_cons, this, h.1.2.1]
      · exact this
theorem Same.ctl {p q : ProgD} (S : Same p q) : ctlM p = ctlM q := by
  have hb : CtlD.bares p.control.l = CtlD.bares q.control.l := by rw [bares_map, bares_map]; exact S.control
  have hp := pres_bare hb
  have hn : nodeAtM p (presM p.control.l) = nodeAtM q (presM q.control.l) := by
    funext i
    unfold nodeAtM
    have hu : usedM ((presM p.control.l).take i) = usedM ((presM q.control.l).take i) := used_bare (by rw [List.map_take, List.map_take, hp])
    rcases get_bare hp i with ⟨e1, e2⟩ | ⟨a, b, e1, e2, e⟩
    · rw [e1, e2]
    · rw [e1, e2]
      simp only
      have hx : nodeM p (usedM ((presM p.control.l).take i)) a = nodeM q (usedM ((presM q.control.l).take i)) b := by
        rw [ctl_bare_iff] at e
        unfold nodeM
        rw [hu, e.1, e.2.1, e.2.2.1, len_bare e.2.2.2.1, len_bare e.2.2.2.2, len_bare S.tables]
        simp only [S.expr]
      rw [hx]
  unfold ctlM
  rw [len_bare hp, nest_bare hb, hn]
theorem Same.dep {p q : ProgD} (S : Same p q) : depM p = depM q := by
  have h : depAtM p q.deparser.l = depAtM q q.deparser.l := by funext i; unfold depAtM; rw [len_bare S.headers]
  unfold depM
  rw [S.deparser, h]
theorem checkM_bare {p q : ProgD} (h : p.bare = q.bare) : checkM p = checkM q := by
  have S := Same.of h
  unfold checkM flowM
  rw [S.lim, S.hdrs, S.meta, S.regs, S.acts, S.tabs, S.parser, S.ctl, S.dep]
theorem diagM_bare {p q : ProgD} (h : p.bare = q.bare) : diagM p = diagM q := by unfold diagM; rw [checkM_bare h]
end Go.Proofs.YtgfbikknkcaneaaGreat
