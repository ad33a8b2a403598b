/- The walks of the reference's equality of actions. No condition but that they lie in memory. The walks of the reference's equality of tables and parser states. No condition but that they lie in memory. -/
import Derived.Test.YtgfbikknkcaneaaGreatGk
import Derived.Deep.RegionHeld3
import Derived.BigQuiet
namespace Go.Proofs.YtgfbikknkcaneaaGreat
open Go.RowKit

set_option maxRecDepth 100000 in
set_option maxHeartbeats 16000000 in
theorem raction_any (x y : ActD) (w : World) (hx : ActOk w x) (hy : ActOk w y) :
    Calls Tryz.prog 83 #[.agg #[.string x.name, .slice x.params.A x.params.l.length x.params.c, .slice x.body.A x.body.l.length x.body.c], .agg #[.string y.name, .slice y.params.A y.params.l.length y.params.c, .slice y.body.A y.body.l.length y.body.c]] w
      fun e w' => Says e (x.bare = y.bare) ∧ Below w.heap.size w w' := by
  obtain ⟨xn, xp, ⟨xl, xA, xc⟩⟩ := x
  obtain ⟨yn, yp, ⟨yl, yA, yc⟩⟩ := y
  obtain ⟨W, hW, hw, HB, hp⟩ := box2 w #[.string xn, .slice xp.A xp.l.length xp.c, .slice xA xl.length xc] 68 #[.string yn, .slice yp.A yp.l.length yp.c, .slice yA yl.length yc] 68
  have HW := Lib.hid hw
  have HX := Lib.hid hx
  have HY := Lib.hid hy
  have hmx : xl.length ≤ 9223372036854775807 := hx.body.1
  clear hx hy hw
  simp only
  go_enter Tryz.func83, Tryz.ntmps83
  go_upto_region 1 with fail
  rw [← hW]
  clear hW
  by_cases hN : xn = yn
  case neg =>
    have hB : (xn.toList == yn.toList) = false := toList_false hN
    have hB2 : (xn.toList != yn.toList) = true := by rw [bne, hB]; rfl
    have HN := Lib.hid hN
    clear hN
    go_wp2
    go_ret
    exact ⟨Says.no (fun e => HN.out (congrArg ActP.name e)), below_step HW.out HB⟩
  have hB : (xn.toList == yn.toList) = true := toList_true hN
  have hB2 : (xn.toList != yn.toList) = false := by rw [bne, hB]; rfl
  have HE0 := Lib.hid hN
  clear hN
  go_wp2_with fail
  refine (requal_field xp yp _ (HX.out.params.below (below_step HW.out HB) (Nat.le_refl _)) (HY.out.params.below (below_step HW.out HB) (Nat.le_refl _))).mono ?_
  rintro e w1 ⟨⟨b, rfl, hb⟩, hbN⟩
  replace HB := below_step HB hbN
  have HE1 := Lib.hid hb
  clear hbN hb
  cases b
  case false =>
    go_wp2
    go_ret
    exact ⟨Says.no (fun e => by have h := HE1.out.2 (congrArg ActP.params e); cases h), below_step HW.out HB⟩
  by_cases hL : xl.length = yl.length
  case neg =>
    have hl0 : (((xl.length : Nat) : Int) == ((yl.length : Nat) : Int)) = false := by rw [beq_eq_false_iff_ne]; omega
    have hl1 : ¬ ((xl.length : Nat) : Int) = ((yl.length : Nat) : Int) := by omega
    have HN := Lib.hid hL
    clear hL
    go_wp2
    go_ret
    exact ⟨Says.no (fun e => HN.out (by simpa [ActD.bare] using congrArg (fun z => (ActP.body z).length) e)), below_step HW.out HB⟩
  have hl0 : (((xl.length : Nat) : Int) == ((yl.length : Nat) : Int)) = true := by rw [beq_iff_eq]; omega
  have HL := Lib.hid hL
  have hl1 : ((xl.length : Nat) : Int) = ((yl.length : Nat) : Int) := by omega
  clear hL
  go_wp2
  have HB0 := Lib.hid HB
  clear HB hl0 hl1
  go_loopw [5] (fun iv wr => ∃ k : Nat, k ≤ xl.length ∧ iv = .int .i64 k ∧ Hid ((xl.take k).map StmtD.bare = (yl.take k).map StmtD.bare) ∧ Below W.heap.size W wr) (fun i _ => xl.length - (intOf i).toNat)
  case atStart => exact ⟨0, Nat.zero_le _, rfl, Lib.hid rfl, HB0.out⟩
  case round =>
    obtain ⟨k, hk, rfl, HK, HB⟩ := hrel
    by_cases hlt : k < xl.length
    · have hlt2 : k < yl.length := by have := HL.out; omega
      obtain ⟨g, of, hA, hall⟩ := StmtD.atA (HX.out.body.below (below_step HW.out HB) (Nat.le_refl _)) hlt
      obtain ⟨g2, of2, hA2, hall2⟩ := StmtD.atA (HY.out.body.below (below_step HW.out HB) (Nat.le_refl _)) hlt2
      simp only at hA hA2
      subst hA hA2
      have hq := fun w' (h : Below wr.heap.size wr w') => hp w' (below_step HB h)
      have HS : Hid (xl[k].bare = yl[k].bare → (xl.take (k + 1)).map StmtD.bare = (yl.take (k + 1)).map StmtD.bare) := Lib.hid (take_bare hlt hlt2 HK.out)
      have HN : Hid (xl.map StmtD.bare = yl.map StmtD.bare → xl[k].bare = yl[k].bare) := Lib.hid (map_get hlt hlt2)
      have HC : Hid (∀ u, Below wr.heap.size wr u → _) := Lib.hid (fun u hb => rstmt_any xl[k] yl[k] u ((HX.out.stmts _ (List.getElem_mem hlt)).below (below_step HW.out (below_step HB hb))) ((HY.out.stmts _ (List.getElem_mem hlt2)).below (below_step HW.out (below_step HB hb))))
      simp only at hall hall2
      generalize xl[k] = a at *
      generalize yl[k] = b at *
      have hi1 : (k : Int) < (xl.length : Int) := by omega
      have hi2 : (k : Int) < (yl.length : Int) := by omega
      have H0 := Lib.hid (Below.refl wr.heap.size wr)
      have hB0 : Below wr.heap.size wr wr := Below.refl _ _
      have HBw := Lib.hid HB
      clear HB hp
      go_upto_region 6 with fail
      go_region_held3 (fun w' => Below wr.heap.size wr w') (first | exact H0.out | exact below_drew H0.out | (exact below_step (by assumption) (by assumption)) | assumption)
        (first | (go_at_call 142; with_reducible (refine (HC.out _ (by assumption)).mono ?_); rintro e w5 ⟨hs, hb1⟩; unfold Says at hs; obtain ⟨r, rfl, hr⟩ := hs; have HR := Lib.hid hr; clear hr))
      have HB5 : Hid (Below wr.heap.size wr _) := Lib.hid (by assumption)
      cases r with
      | false =>
        have HN2 : Hid (¬ xl.map StmtD.bare = yl.map StmtD.bare) := Lib.hid (fun e => by have h := HR.out.2 (HN.out e); cases h)
        clear HN HS
        go_wp2
        go_ret
        exact ⟨Says.no (fun e => HN2.out (congrArg ActP.body e)), below_step HW.out (below_step HBw.out HB5.out)⟩
      | true =>
        have HS2 := Lib.hid (HS.out (HR.out.1 (by trivial)))
        clear HN HS
        go_wp2
        go_roundw
        case rel => exact ⟨k + 1, by omega, by go_num, HS2, below_step HBw.out HB5.out⟩
        case measure => simp [intOf]; omega
    · have hk' : k = xl.length := by omega
      subst hk'
      have HE : Hid (xl.map StmtD.bare = yl.map StmtD.bare) := Lib.hid (by have := HK.out; rw [List.take_length, HL.out, List.take_length] at this; exact this)
      go_wp2
      go_ret
      exact ⟨Says.yes (by show ActP.mk _ _ _ = ActP.mk _ _ _; rw [HE0.out, HE1.out.1 (by trivial), HE.out]), below_step HW.out HB⟩
end Go.Proofs.YtgfbikknkcaneaaGreat
namespace Go.Proofs.YtgfbikknkcaneaaGreat
open Go.RowKit

theorem neq_ref (a b c d : Int) : ∃ r : Bool, (r = false ↔ a = c ∧ b = d) ∧ ∀ w, Sem.run Tryz.prog (binOp .neq 70 (.agg #[.int .i64 a, .int .i64 b]) (.agg #[.int .i64 c, .int .i64 d])) w = .ok (.bool r) w := by
  refine ⟨!((a == c) && (b == d)), (by simp), fun w => ?_⟩
  have hS : Tryz.prog.underlying 70 = some (.struct (Tryz.prog.fieldsOf 70)) := by kernel_rfl
  have hp : Tryz.prog.stoodInHeld 70 = false := by kernel_rfl
  have u0 := Tryz.underlying3
  have a0 := Tryz.isAgg3
  have z0 := Tryz.sizeOf3
  rw [run_neq_struct, show (10000 : Nat) = 9999 + 1 from rfl, run_equalIn_agg w 9999 70 _ _ hS hp]
  simp only [Program.fieldsOf, Tryz.underlying70]
  go_simp
  repeat' split
  all_goals simp_all
set_option maxRecDepth 100000 in
set_option maxHeartbeats 16000000 in
theorem rtable_any (x y : TabD) (w : World) (hx : TabOk w x) (hy : TabOk w y) :
    Calls Tryz.prog 84 #[.agg #[.string x.name, .slice x.keys.A x.keys.l.length x.keys.c, .slice x.acts.A x.acts.l.length x.acts.c, .int .i64 x.defA, .slice x.args.A x.args.l.length x.args.c, .int .i64 x.size], .agg #[.string y.name, .slice y.keys.A y.keys.l.length y.keys.c, .slice y.acts.A y.acts.l.length y.acts.c, .int .i64 y.defA, .slice y.args.A y.args.l.length y.args.c, .int .i64 y.size]] w fun e w' => Says e (x.bare = y.bare) ∧ Below w.heap.size w w' := by
  obtain ⟨xn, ⟨kl, kA, kc⟩, xa, xd, ⟨gl, gA, gc⟩, xs⟩ := x
  obtain ⟨yn, ⟨ml, mA, mc⟩, ya, yd, ⟨hl, hA0, hc⟩, ys⟩ := y
  obtain ⟨W, hW, hw, HB, hp⟩ := box2 w #[.string xn, .slice kA kl.length kc, .slice xa.A xa.l.length xa.c, .int .i64 xd, .slice gA gl.length gc, .int .i64 xs] 52 #[.string yn, .slice mA ml.length mc, .slice ya.A ya.l.length ya.c, .int .i64 yd, .slice hA0 hl.length hc, .int .i64 ys] 52
  have HW := Lib.hid hw
  have HX := Lib.hid hx
  have HY := Lib.hid hy
  have hmx : kl.length ≤ 9223372036854775807 := hx.keys.1
  have hmy : gl.length ≤ 9223372036854775807 := hx.args.1
  clear hx hy hw
  simp only
  go_enter Tryz.func84, Tryz.ntmps84
  go_upto_region 1 with fail
  rw [← hW]
  clear hW
  by_cases hN : xn = yn
  case neg =>
    have hB : (xn.toList == yn.toList) = false := toList_false hN
    have hB2 : (xn.toList != yn.toList) = true := by rw [bne, hB]; rfl
    have HN := Lib.hid hN
    clear hN
    go_wp2
    go_ret
    exact ⟨Says.no (fun e => HN.out (congrArg TabP.name e)), below_step HW.out HB⟩
  have hB0 : (xn.toList == yn.toList) = true := toList_true hN
  have hC0 : (xn.toList != yn.toList) = false := by rw [bne, hB0]; rfl
  have HE0 := Lib.hid hN
  clear hN
  by_cases hN : xs = ys
  case neg =>
    have hB : (xs == ys) = false := beq_eq_false_iff_ne.2 hN
    have hB2 : (xs != ys) = true := by rw [bne, hB]; rfl
    have HN := Lib.hid hN
    clear hN
    go_wp2
    go_ret
    exact ⟨Says.no (fun e => HN.out (congrArg TabP.size e)), below_step HW.out HB⟩
  have hB1 : (xs == ys) = true := beq_iff_eq.2 hN
  have hC1 : (xs != ys) = false := by rw [bne, hB1]; rfl
  have HE1 := Lib.hid hN
  clear hN
  by_cases hL : kl.length = ml.length
  case neg =>
    have hl0 : (((kl.length : Nat) : Int) == ((ml.length : Nat) : Int)) = false := by rw [beq_eq_false_iff_ne]; omega
    have hl1 : ¬ ((kl.length : Nat) : Int) = ((ml.length : Nat) : Int) := by omega
    have HN := Lib.hid hL
    clear hL
    go_wp2
    go_ret
    exact ⟨Says.no (fun e => HN.out (by simpa [ProgD.bare, TabD.bare, StateD.bare] using congrArg (fun z => (TabP.keys z).length) e)), below_step HW.out HB⟩
  have HL2 := Lib.hid hL
  have hl2 : (((kl.length : Nat) : Int) == ((ml.length : Nat) : Int)) = true := by rw [beq_iff_eq]; omega
  have hm2 : ((kl.length : Nat) : Int) = ((ml.length : Nat) : Int) := by omega
  clear hL
  go_wp2_with fail
  refine (requal_int xa ya _ (HX.out.acts.below (below_step HW.out HB) (Nat.le_refl _)) (HY.out.acts.below (below_step HW.out HB) (Nat.le_refl _))).mono ?_
  rintro e w1 ⟨⟨b, rfl, hb⟩, hbN⟩
  replace HB := below_step HB hbN
  have HE3 := Lib.hid hb
  clear hbN hb
  cases b
  case false =>
    go_wp2
    go_ret
    exact ⟨Says.no (fun e => by have h := HE3.out.2 (congrArg TabP.acts e); cases h), below_step HW.out HB⟩
  by_cases hN : xd = yd
  case neg =>
    have hB : (xd == yd) = false := beq_eq_false_iff_ne.2 hN
    have hB2 : (xd != yd) = true := by rw [bne, hB]; rfl
    have HN := Lib.hid hN
    clear hN
    go_wp2
    go_ret
    exact ⟨Says.no (fun e => HN.out (congrArg TabP.defA e)), below_step HW.out HB⟩
  have hB4 : (xd == yd) = true := beq_iff_eq.2 hN
  have hC4 : (xd != yd) = false := by rw [bne, hB4]; rfl
  have HE4 := Lib.hid hN
  clear hN
  by_cases hL : gl.length = hl.length
  case neg =>
    have hl0 : (((gl.length : Nat) : Int) == ((hl.length : Nat) : Int)) = false := by rw [beq_eq_false_iff_ne]; omega
    have hl1 : ¬ ((gl.length : Nat) : Int) = ((hl.length : Nat) : Int) := by omega
    have HN := Lib.hid hL
    clear hL
    go_wp2
    go_ret
    exact ⟨Says.no (fun e => HN.out (by simpa [ProgD.bare, TabD.bare, StateD.bare] using congrArg (fun z => (TabP.args z).length) e)), below_step HW.out HB⟩
  have HL5 := Lib.hid hL
  have hl5 : (((gl.length : Nat) : Int) == ((hl.length : Nat) : Int)) = true := by rw [beq_iff_eq]; omega
  have hm5 : ((gl.length : Nat) : Int) = ((hl.length : Nat) : Int) := by omega
  clear hL
  go_wp2
  clear hl2 hm2 hl5 hm5
  have HBa := Lib.hid HB
  clear HB
  go_loopw [5] (fun iv wr => ∃ k : Nat, k ≤ kl.length ∧ iv = .int .i64 k ∧ Hid (kl.take k = ml.take k) ∧ Below W.heap.size W wr) (fun i _ => kl.length - (intOf i).toNat)
  case atStart => exact ⟨0, Nat.zero_le _, rfl, Lib.hid rfl, HBa.out⟩
  case round =>
  obtain ⟨ka, hka, rfl, HKa, HB⟩ := hrel
  by_cases hlt : ka < kl.length
  · have hlt2 : ka < ml.length := by have := HL2.out; omega
    obtain ⟨g, of, hA, d0, d1, d2⟩ := KeyD.at (HX.out.keys.below (below_step HW.out HB) (Nat.le_refl _)) hlt
    obtain ⟨g2, of2, hA2, e0, e1, e2⟩ := KeyD.at (HY.out.keys.below (below_step HW.out HB) (Nat.le_refl _)) hlt2
    simp only at hA hA2
    subst hA hA2
    try simp only at d0 d1 d2 e0 e1 e2
    have HS : Hid (kl[ka] = ml[ka] → kl.take (ka + 1) = ml.take (ka + 1)) := Lib.hid (take_step hlt hlt2 HKa.out)
    have HN : Hid (¬ kl[ka] = ml[ka] → ¬ kl = ml) := Lib.hid (fun h e => h (by subst e; rfl))
    generalize kl[ka] = a at *
    generalize ml[ka] = b at *
    have hi1 : (ka : Int) < (kl.length : Int) := by omega
    have hi2 : (ka : Int) < (ml.length : Int) := by omega
    have hp0 := hp _ HB
    obtain ⟨bb, hb0, hbb⟩ := neq_key a b
    have HBB := Lib.hid hb0
    clear hb0
    have HBw := Lib.hid HB
    clear hp
    cases bb with
    | true =>
      have HN2 := Lib.hid (HN.out (by intro e; have := HBB.out.2 e; cases this))
      clear HN HS
      go_upto_region 6 with fail
      go_quiet (fail)
      go_wp2
      go_ret
      exact ⟨Says.no (fun e => HN2.out (congrArg TabP.keys e)), below_step HW.out (below_drewN HBw.out _)⟩
    | false =>
      have HS2 := Lib.hid (HS.out (HBB.out.1 rfl))
      clear HN HS
      go_upto_region 6 with fail
      go_quiet (fail)
      go_wp2
      go_roundw
      case rel => exact ⟨ka + 1, by omega, by go_num, HS2, below_drewN HBw.out _⟩
      case measure => simp [intOf]; omega
  have hk' : ka = kl.length := by omega
  subst hk'
  have HFa : Hid (kl = ml) := Lib.hid (by have := HKa.out; rw [List.take_length, HL2.out, List.take_length] at this; exact this)
  clear HKa
  go_wp2
  have HBb := Lib.hid HB
  clear HB
  go_loopw [6] (fun iv wr => ∃ k : Nat, k ≤ gl.length ∧ iv = .int .i64 k ∧ Hid (gl.take k = hl.take k) ∧ Below W.heap.size W wr) (fun i _ => gl.length - (intOf i).toNat)
  case atStart => exact ⟨0, Nat.zero_le _, rfl, Lib.hid rfl, HBb.out⟩
  case round =>
  obtain ⟨kb, hkb, rfl, HKb, HB⟩ := hrel
  by_cases hlt : kb < gl.length
  · have hlt2 : kb < hl.length := by have := HL5.out; omega
    obtain ⟨g, of, hA, d0⟩ := ucell_at (HX.out.args.below (below_step HW.out HB) (Nat.le_refl _)) hlt
    obtain ⟨g2, of2, hA2, e0⟩ := ucell_at (HY.out.args.below (below_step HW.out HB) (Nat.le_refl _)) hlt2
    simp only at hA hA2
    subst hA hA2
    try simp only at d0 e0
    have HS : Hid (gl[kb] = hl[kb] → gl.take (kb + 1) = hl.take (kb + 1)) := Lib.hid (take_step hlt hlt2 HKb.out)
    have HN : Hid (¬ gl[kb] = hl[kb] → ¬ gl = hl) := Lib.hid (fun h e => h (by subst e; rfl))
    generalize gl[kb] = a at *
    generalize hl[kb] = b at *
    have hi1 : (kb : Int) < (gl.length : Int) := by omega
    have hi2 : (kb : Int) < (hl.length : Int) := by omega
    have hp0 := hp _ HB
    obtain ⟨bb, hbb⟩ : ∃ bb, (a != b) = bb := ⟨_, rfl⟩
    have HBB := Lib.hid (show bb = false ↔ a = b by rw [← hbb]; simp)
    have HBw := Lib.hid HB
    clear hp
    cases bb with
    | true =>
      have HN2 := Lib.hid (HN.out (by intro e; have := HBB.out.2 e; cases this))
      clear HN HS
      go_upto_region 11 with fail
      go_quiet (fail)
      go_wp2
      go_ret
      exact ⟨Says.no (fun e => HN2.out (congrArg TabP.args e)), below_step HW.out (below_drewN HBw.out _)⟩
    | false =>
      have HS2 := Lib.hid (HS.out (HBB.out.1 rfl))
      clear HN HS
      go_upto_region 11 with fail
      go_quiet (fail)
      go_wp2
      go_roundw
      case rel => exact ⟨kb + 1, by omega, by go_num, HS2, below_drewN HBw.out _⟩
      case measure => simp [intOf]; omega
  have hk' : kb = gl.length := by omega
  subst hk'
  have HFb : Hid (gl = hl) := Lib.hid (by have := HKb.out; rw [List.take_length, HL5.out, List.take_length] at this; exact this)
  clear HKb
  go_wp2
  go_ret
  exact ⟨Says.yes (by show TabP.mk _ _ _ _ _ _ = TabP.mk _ _ _ _ _ _; rw [HE0.out, HFa.out, HE3.out.1 (by trivial), HE4.out, HFb.out, HE1.out]), below_step HW.out HB⟩
set_option maxRecDepth 100000 in
set_option maxHeartbeats 16000000 in
theorem rstate_any (x y : StateD) (w : World) (hx : StateOk w x) (hy : StateOk w y) :
    Calls Tryz.prog 85 #[.agg #[.string x.name, .slice x.extract.A x.extract.l.length x.extract.c, .bool x.sel, .int .i64 x.oh, .int .i64 x.of, .slice x.cases.A x.cases.l.length x.cases.c, .int .i64 x.dflt], .agg #[.string y.name, .slice y.extract.A y.extract.l.length y.extract.c, .bool y.sel, .int .i64 y.oh, .int .i64 y.of, .slice y.cases.A y.cases.l.length y.cases.c, .int .i64 y.dflt]] w fun e w' => Says e (x.bare = y.bare) ∧ Below w.heap.size w w' := by
  obtain ⟨xn, xe, xs, xh, xf, ⟨kl, kA, kc⟩, xd⟩ := x
  obtain ⟨yn, ye, ys, yh, yf, ⟨ml, mA, mc⟩, yd⟩ := y
  obtain ⟨W, hW, hw, HB, hp⟩ := box2 w #[.string xn, .slice xe.A xe.l.length xe.c, .bool xs, .int .i64 xh, .int .i64 xf, .slice kA kl.length kc, .int .i64 xd] 73 #[.string yn, .slice ye.A ye.l.length ye.c, .bool ys, .int .i64 yh, .int .i64 yf, .slice mA ml.length mc, .int .i64 yd] 73
  have HW := Lib.hid hw
  have HX := Lib.hid hx
  have HY := Lib.hid hy
  have hmx : kl.length ≤ 9223372036854775807 := hx.cases.1
  clear hx hy hw
  simp only
  go_enter Tryz.func85, Tryz.ntmps85
  go_upto_region 1 with fail
  rw [← hW]
  clear hW
  by_cases hN : xn = yn
  case neg =>
    have hB : (xn.toList == yn.toList) = false := toList_false hN
    have hB2 : (xn.toList != yn.toList) = true := by rw [bne, hB]; rfl
    have HN := Lib.hid hN
    clear hN
    go_wp2
    go_ret
    exact ⟨Says.no (fun e => HN.out (congrArg StateP.name e)), below_step HW.out HB⟩
  have hB0 : (xn.toList == yn.toList) = true := toList_true hN
  have hC0 : (xn.toList != yn.toList) = false := by rw [bne, hB0]; rfl
  have HE0 := Lib.hid hN
  clear hN
  by_cases hN : xs = ys
  case neg =>
    have hB : (xs == ys) = false := beq_eq_false_iff_ne.2 hN
    have hB2 : (xs != ys) = true := by rw [bne, hB]; rfl
    have HN := Lib.hid hN
    clear hN
    go_wp2
    go_ret
    exact ⟨Says.no (fun e => HN.out (congrArg StateP.sel e)), below_step HW.out HB⟩
  have hB1 : (xs == ys) = true := beq_iff_eq.2 hN
  have hC1 : (xs != ys) = false := by rw [bne, hB1]; rfl
  have HE1 := Lib.hid hN
  clear hN
  obtain ⟨r2, hr2, hR2⟩ := neq_ref xh xf yh yf
  have HE2 := Lib.hid hr2
  clear hr2
  cases r2
  case true =>
    go_wp2
    go_ret
    exact ⟨Says.no (fun e => by have h := HE2.out.2 ⟨congrArg StateP.oh e, congrArg StateP.of e⟩; cases h), below_step HW.out HB⟩
  by_cases hN : xd = yd
  case neg =>
    have hB : (xd == yd) = false := beq_eq_false_iff_ne.2 hN
    have hB2 : (xd != yd) = true := by rw [bne, hB]; rfl
    have HN := Lib.hid hN
    clear hN
    go_wp2
    go_ret
    exact ⟨Says.no (fun e => HN.out (congrArg StateP.dflt e)), below_step HW.out HB⟩
  have hB3 : (xd == yd) = true := beq_iff_eq.2 hN
  have hC3 : (xd != yd) = false := by rw [bne, hB3]; rfl
  have HE3 := Lib.hid hN
  clear hN
  go_wp2_with fail
  refine (requal_int xe ye _ (HX.out.extract.below (below_step HW.out HB) (Nat.le_refl _)) (HY.out.extract.below (below_step HW.out HB) (Nat.le_refl _))).mono ?_
  rintro e w1 ⟨⟨b, rfl, hb⟩, hbN⟩
  replace HB := below_step HB hbN
  have HE4 := Lib.hid hb
  clear hbN hb
  cases b
  case false =>
    go_wp2
    go_ret
    exact ⟨Says.no (fun e => by have h := HE4.out.2 (congrArg StateP.extract e); cases h), below_step HW.out HB⟩
  by_cases hL : kl.length = ml.length
  case neg =>
    have hl0 : (((kl.length : Nat) : Int) == ((ml.length : Nat) : Int)) = false := by rw [beq_eq_false_iff_ne]; omega
    have hl1 : ¬ ((kl.length : Nat) : Int) = ((ml.length : Nat) : Int) := by omega
    have HN := Lib.hid hL
    clear hL
    go_wp2
    go_ret
    exact ⟨Says.no (fun e => HN.out (by simpa [ProgD.bare, TabD.bare, StateD.bare] using congrArg (fun z => (StateP.cases z).length) e)), below_step HW.out HB⟩
  have HL5 := Lib.hid hL
  have hl5 : (((kl.length : Nat) : Int) == ((ml.length : Nat) : Int)) = true := by rw [beq_iff_eq]; omega
  have hm5 : ((kl.length : Nat) : Int) = ((ml.length : Nat) : Int) := by omega
  clear hL
  go_wp2
  clear hl5 hm5
  have HBa := Lib.hid HB
  clear HB
  go_loopw [5] (fun iv wr => ∃ k : Nat, k ≤ kl.length ∧ iv = .int .i64 k ∧ Hid (kl.take k = ml.take k) ∧ Below W.heap.size W wr) (fun i _ => kl.length - (intOf i).toNat)
  case atStart => exact ⟨0, Nat.zero_le _, rfl, Lib.hid rfl, HBa.out⟩
  case round =>
  obtain ⟨ka, hka, rfl, HKa, HB⟩ := hrel
  by_cases hlt : ka < kl.length
  · have hlt2 : ka < ml.length := by have := HL5.out; omega
    obtain ⟨g, of, hA, d0, d1, d2⟩ := CaseD.at (HX.out.cases.below (below_step HW.out HB) (Nat.le_refl _)) hlt
    obtain ⟨g2, of2, hA2, e0, e1, e2⟩ := CaseD.at (HY.out.cases.below (below_step HW.out HB) (Nat.le_refl _)) hlt2
    simp only at hA hA2
    subst hA hA2
    try simp only at d0 d1 d2 e0 e1 e2
    have HS : Hid (kl[ka] = ml[ka] → kl.take (ka + 1) = ml.take (ka + 1)) := Lib.hid (take_step hlt hlt2 HKa.out)
    have HN : Hid (¬ kl[ka] = ml[ka] → ¬ kl = ml) := Lib.hid (fun h e => h (by subst e; rfl))
    generalize kl[ka] = a at *
    generalize ml[ka] = b at *
    have hi1 : (ka : Int) < (kl.length : Int) := by omega
    have hi2 : (ka : Int) < (ml.length : Int) := by omega
    have hp0 := hp _ HB
    obtain ⟨bb, hb0, hbb⟩ := neq_case a b
    have HBB := Lib.hid hb0
    clear hb0
    have HBw := Lib.hid HB
    clear hp
    cases bb with
    | true =>
      have HN2 := Lib.hid (HN.out (by intro e; have := HBB.out.2 e; cases this))
      clear HN HS
      go_upto_region 6 with fail
      go_quiet (fail)
      go_wp2
      go_ret
      exact ⟨Says.no (fun e => HN2.out (congrArg StateP.cases e)), below_step HW.out (below_drewN HBw.out _)⟩
    | false =>
      have HS2 := Lib.hid (HS.out (HBB.out.1 rfl))
      clear HN HS
      go_upto_region 6 with fail
      go_quiet (fail)
      go_wp2
      go_roundw
      case rel => exact ⟨ka + 1, by omega, by go_num, HS2, below_drewN HBw.out _⟩
      case measure => simp [intOf]; omega
  have hk' : ka = kl.length := by omega
  subst hk'
  have HFa : Hid (kl = ml) := Lib.hid (by have := HKa.out; rw [List.take_length, HL5.out, List.take_length] at this; exact this)
  clear HKa
  go_wp2
  go_ret
  exact ⟨Says.yes (by show StateP.mk _ _ _ _ _ _ _ = StateP.mk _ _ _ _ _ _ _; rw [HE0.out, HE4.out.1 (by trivial), HE1.out, (HE2.out.1 (by trivial)).1, (HE2.out.1 (by trivial)).2, HFa.out, HE3.out]), below_step HW.out HB⟩
end Go.Proofs.YtgfbikknkcaneaaGreat
