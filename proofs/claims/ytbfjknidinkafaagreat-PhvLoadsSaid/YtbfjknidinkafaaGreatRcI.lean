/- The walks of the reference's scope, check and call check of an action. No condition but that the program lies in memory and its numbers are of their kinds. -/
import Derived.Test.YtbfjknidinkafaaGreatRcH
import Derived.Test.YtbfjknidinkafaaGreatCkL
import Derived.Test.YtbfjknidinkafaaGreatMov
import Derived.RegionTactic
namespace Go.Proofs.YtbfjknidinkafaaGreat
open Go.RowKit

theorem flipC {f : FuncId} {args : Array Value} {w : World} {r : Ending} (h : Calls Tryz.prog f args w fun e w' => e = r ∧ w = w') : Calls Tryz.prog f args w fun e w' => e = r ∧ w' = w := h.mono fun _ _ h => ⟨h.1, h.2.symm⟩
theorem scope_blk {w1 : World} {k : Nat} (h : Blk w1 k 196 #[.string ⟨#[]⟩, .slice none 0 0, .slice none 0 0, .slice none 0 0, .slice none 0 0, .slice none 0 0, .slice none 0 0, .slice none 0 0, .slice none 0 0, .slice none 0 0]) (v0 v1 v2 v3 v4 v5 v6 v7 v8 v9 : Value) :
    Blk ((((((((((w1.setCell ⟨k, 0, none⟩ v0).setCell ⟨k, 1, none⟩ v1).setCell ⟨k, 2, none⟩ v2).setCell ⟨k, 3, none⟩ v3).setCell ⟨k, 4, none⟩ v4).setCell ⟨k, 5, none⟩ v5).setCell ⟨k, 6, none⟩ v6).setCell ⟨k, 7, none⟩ v7).setCell ⟨k, 8, none⟩ v8).setCell ⟨k, 9, none⟩ v9) k 196 #[v0, v1, v2, v3, v4, v5, v6, v7, v8, v9] := by
  have h0 : Blk (w1.setCell ⟨k, 0, none⟩ v0) k 196 #[v0, .slice none 0 0, .slice none 0 0, .slice none 0 0, .slice none 0 0, .slice none 0 0, .slice none 0 0, .slice none 0 0, .slice none 0 0, .slice none 0 0] := h.set_ 0 v0
  clear h
  have h1 : Blk ((w1.setCell ⟨k, 0, none⟩ v0).setCell ⟨k, 1, none⟩ v1) k 196 #[v0, v1, .slice none 0 0, .slice none 0 0, .slice none 0 0, .slice none 0 0, .slice none 0 0, .slice none 0 0, .slice none 0 0, .slice none 0 0] := h0.set_ 1 v1
  clear h0
  have h2 : Blk (((w1.setCell ⟨k, 0, none⟩ v0).setCell ⟨k, 1, none⟩ v1).setCell ⟨k, 2, none⟩ v2) k 196 #[v0, v1, v2, .slice none 0 0, .slice none 0 0, .slice none 0 0, .slice none 0 0, .slice none 0 0, .slice none 0 0, .slice none 0 0] := h1.set_ 2 v2
  clear h1
  have h3 : Blk ((((w1.setCell ⟨k, 0, none⟩ v0).setCell ⟨k, 1, none⟩ v1).setCell ⟨k, 2, none⟩ v2).setCell ⟨k, 3, none⟩ v3) k 196 #[v0, v1, v2, v3, .slice none 0 0, .slice none 0 0, .slice none 0 0, .slice none 0 0, .slice none 0 0, .slice none 0 0] := h2.set_ 3 v3
  clear h2
  have h4 : Blk (((((w1.setCell ⟨k, 0, none⟩ v0).setCell ⟨k, 1, none⟩ v1).setCell ⟨k, 2, none⟩ v2).setCell ⟨k, 3, none⟩ v3).setCell ⟨k, 4, none⟩ v4) k 196 #[v0, v1, v2, v3, v4, .slice none 0 0, .slice none 0 0, .slice none 0 0, .slice none 0 0, .slice none 0 0] := h3.set_ 4 v4
  clear h3
  have h5 : Blk ((((((w1.setCell ⟨k, 0, none⟩ v0).setCell ⟨k, 1, none⟩ v1).setCell ⟨k, 2, none⟩ v2).setCell ⟨k, 3, none⟩ v3).setCell ⟨k, 4, none⟩ v4).setCell ⟨k, 5, none⟩ v5) k 196 #[v0, v1, v2, v3, v4, v5, .slice none 0 0, .slice none 0 0, .slice none 0 0, .slice none 0 0] := h4.set_ 5 v5
  clear h4
  have h6 : Blk (((((((w1.setCell ⟨k, 0, none⟩ v0).setCell ⟨k, 1, none⟩ v1).setCell ⟨k, 2, none⟩ v2).setCell ⟨k, 3, none⟩ v3).setCell ⟨k, 4, none⟩ v4).setCell ⟨k, 5, none⟩ v5).setCell ⟨k, 6, none⟩ v6) k 196 #[v0, v1, v2, v3, v4, v5, v6, .slice none 0 0, .slice none 0 0, .slice none 0 0] := h5.set_ 6 v6
  clear h5
  have h7 : Blk ((((((((w1.setCell ⟨k, 0, none⟩ v0).setCell ⟨k, 1, none⟩ v1).setCell ⟨k, 2, none⟩ v2).setCell ⟨k, 3, none⟩ v3).setCell ⟨k, 4, none⟩ v4).setCell ⟨k, 5, none⟩ v5).setCell ⟨k, 6, none⟩ v6).setCell ⟨k, 7, none⟩ v7) k 196 #[v0, v1, v2, v3, v4, v5, v6, v7, .slice none 0 0, .slice none 0 0] := h6.set_ 7 v7
  clear h6
  have h8 : Blk (((((((((w1.setCell ⟨k, 0, none⟩ v0).setCell ⟨k, 1, none⟩ v1).setCell ⟨k, 2, none⟩ v2).setCell ⟨k, 3, none⟩ v3).setCell ⟨k, 4, none⟩ v4).setCell ⟨k, 5, none⟩ v5).setCell ⟨k, 6, none⟩ v6).setCell ⟨k, 7, none⟩ v7).setCell ⟨k, 8, none⟩ v8) k 196 #[v0, v1, v2, v3, v4, v5, v6, v7, v8, .slice none 0 0] := h7.set_ 8 v8
  clear h7
  have h9 : Blk ((((((((((w1.setCell ⟨k, 0, none⟩ v0).setCell ⟨k, 1, none⟩ v1).setCell ⟨k, 2, none⟩ v2).setCell ⟨k, 3, none⟩ v3).setCell ⟨k, 4, none⟩ v4).setCell ⟨k, 5, none⟩ v5).setCell ⟨k, 6, none⟩ v6).setCell ⟨k, 7, none⟩ v7).setCell ⟨k, 8, none⟩ v8).setCell ⟨k, 9, none⟩ v9) k 196 #[v0, v1, v2, v3, v4, v5, v6, v7, v8, v9] := h8.set_ 9 v9
  clear h8
  exact h9
set_option maxRecDepth 100000 in
set_option maxHeartbeats 4000000 in
theorem rscope_any (p : ProgD) (i : Nat) (hi : i < p.actions.l.length) (w : World) (o : ProgOk w p) :
    Calls Tryz.prog 146 #[.agg (progCells p), .int .i64 i] w fun e w' => e = .returned (.agg (scopeCells p p.actions.l[i].params)) ∧ Below w.heap.size w w' := by
  obtain ⟨W, hW, hw, HB, hS, hpq⟩ := boxC w (progCells p) 31 #[.string ⟨#[]⟩, .slice none 0 0, .slice none 0 0, .slice none 0 0, .slice none 0 0, .slice none 0 0, .slice none 0 0, .slice none 0 0, .slice none 0 0, .slice none 0 0] 196
  obtain ⟨g, of, hA, hq⟩ := ActD.atA (o.actions.below hw (Nat.le_refl _)) hi
  have hn1 : (i : Int) < (p.actions.l.length : Int) := by omega
  clear o
  have HQ := Lib.hid (fun w' h => (hpq w' h).2.2.2.2)
  have hp := fun w' h => (⟨(hpq w' h).1, (hpq w' h).2.1, (hpq w' h).2.2.1, (hpq w' h).2.2.2.1⟩ : _ ∧ _ ∧ _ ∧ _)
  clear hpq
  have HW := Lib.hid hw
  generalize p.actions.l[i] = a at *
  obtain ⟨an, ⟨pl, pA, pc⟩, ⟨bl, bA, bc⟩⟩ := a
  simp only at hq
  have HAA := Lib.hid hA
  simp only [progCells, scopeCells, hA] at hp hW ⊢
  clear hA hw hS
  go_enter Tryz.func146, Tryz.ntmps146
  go_upto_region 1 with fail
  rw [← hW]
  clear hW
  have hp3 := hp W HB
  have hq3 := hq W HB
  clear hp hq
  go_region
  go_wp2
  have hb := (scope_blk (HQ.out W HB) (.string p.name) (.slice p.headers.A p.headers.l.length p.headers.c) (.slice p.metadata.A p.metadata.l.length p.metadata.c) (.slice p.registers.A p.registers.l.length p.registers.c) (.slice (some ⟨g, of, none⟩) p.actions.l.length p.actions.c) (.slice p.tables.A p.tables.l.length p.tables.c) (.slice p.states.A p.states.l.length p.states.c) (.slice p.control.A p.control.l.length p.control.c) (.slice p.deparser.A p.deparser.l.length p.deparser.c) (.slice pA pl.length pc)).drew
  refine bodyPost_ret (v := .agg #[.string p.name, .slice p.headers.A p.headers.l.length p.headers.c, .slice p.metadata.A p.metadata.l.length p.metadata.c, .slice p.registers.A p.registers.l.length p.registers.c, .slice (some ⟨g, of, none⟩) p.actions.l.length p.actions.c, .slice p.tables.A p.tables.l.length p.tables.c, .slice p.states.A p.states.l.length p.states.c, .slice p.control.A p.control.l.length p.control.c, .slice p.deparser.A p.deparser.l.length p.deparser.c, .slice pA pl.length pc]) ?_ rfl ?_
  · exact results_cell_row (fn := Tryz.f146) (p := 4) (ty := 196) rfl _ _ (w.heap.size + 1) 196 _ (0, 0) _ rfl hb Tryz.underlying196 rfl (by kernel_rfl)
  · refine ⟨rfl, Below.drew ?_⟩
    (repeat refine Below.setCell ?_ (Nat.le_succ _) _)
    exact below_step HW.out HB

/-- the error of a declaration, the fields' first error named -/
theorem declarM_eq (a : ActD) : declarM a = if ident a.name = false then 6 else if 4 < a.params.l.length ∨ 12 < a.body.l.length then 12 else fldsM a.params.l := rfl
set_option maxRecDepth 100000 in
set_option maxHeartbeats 16000000 in
theorem ractionCheck_any (p : ProgD) (i : Nat) (hi : i < p.actions.l.length) (w : World) (o : ProgOk w p) :
    Calls Tryz.prog 97 #[.agg (progCells p), .int .i64 i] w fun e w' => e = .returned (.tuple #[.int .i64 (actM p p.actions.l[i]).1, .int .i64 (actM p p.actions.l[i]).2]) ∧ Below w.heap.size w w' := by
  have HO := Lib.hid o
  obtain ⟨W, hW, hw, HB, hp⟩ := box1 w (progCells p) 31
  have HW := Lib.hid hw
  have HA : Hid (ActOk W p.actions.l[i]) := Lib.hid ((o.act _ (List.getElem_mem hi)).below hw)
  have HR := Lib.hid (actM_eq p p.actions.l[i])
  have HD := Lib.hid (declarM_eq p.actions.l[i])
  have HS := Lib.hid (stAtM_at p p.actions.l[i])
  have hsc := fun u (hb : Below W.heap.size W u) => rscope_any p i hi u (o.below (below_step hw hb))
  obtain ⟨g, of, hA, hq⟩ := ActD.atA (o.actions.below hw (Nat.le_refl _)) hi
  have hn1 : (i : Int) < (p.actions.l.length : Int) := by omega
  clear o hw
  generalize p.actions.l[i] = a at *
  obtain ⟨an, ⟨pl, pA, pc⟩, ⟨bl, bA, bc⟩⟩ := a
  simp only at HR HS hq HD
  have HAA := Lib.hid hA
  simp only [progCells, hA] at hp hW ⊢
  simp only [progCells, scopeCells, hA] at hsc
  have HSc := Lib.hid hsc
  clear hA hsc
  have HNm : Hid (an.size ≤ maxLen) := Lib.hid HA.out.name
  have HPm := Lib.hid HA.out.params
  have HPn := Lib.hid HA.out.pnames
  simp only at HPm HPn
  go_enter Tryz.func97, Tryz.ntmps97
  go_upto_region 1 with fail
  rw [← hW]
  clear hW
  refine Exists.elim (box1 W #[.string an, .slice pA pl.length pc, .slice bA bl.length bc] 124) ?_
  rintro U ⟨hU, hu, hUU, hc⟩
  go_upto_region 4 with fail
  rw [← hU]
  clear hU
  have HU := Lib.hid hu
  have hp2 := fun w' h => hp w' (below_step hu h)
  replace HB := hUU
  clear hp hUU hu hq
  go_wp2_with fail
  refine (risIdent_any an _ HNm.out).mono ?_
  rintro e w' ⟨rfl, rfl⟩
  cases h1 : identM an.data.toList
  · have HD2 := Lib.hid (HD.out.trans (if_pos (show ident an = false from h1)))
    have HR2 : Hid (actM p ⟨an, ⟨pl, pA, pc⟩, ⟨bl, bA, bc⟩⟩ = (-1, 6)) := Lib.hid (by rw [HR.out, HD2.out]; rfl)
    go_wp2
    go_ret2
    exact ⟨ret_pp HR2.out, below_step HW.out (below_step HU.out HB)⟩
  replace HD := Lib.hid (HD.out.trans (if_neg (show ¬ ident an = false by rw [show ident an = true from h1]; simp)))
  clear h1
  by_cases h2 : 4 < pl.length ∨ 12 < bl.length
  · have HD2 := Lib.hid (HD.out.trans (if_pos h2))
    have HR2 : Hid (actM p ⟨an, ⟨pl, pA, pc⟩, ⟨bl, bA, bc⟩⟩ = (-1, 12)) := Lib.hid (by rw [HR.out, HD2.out]; rfl)
    have h2' : 4 < pl.length ∨ (pl.length ≤ 4 ∧ 12 < bl.length) := by omega
    rcases h2' with h2 | ⟨h2, h3⟩
    all_goals
      go_wp2
      go_ret2
      exact ⟨ret_pp HR2.out, below_step HW.out (below_step HU.out HB)⟩
  replace HD := Lib.hid (HD.out.trans (if_neg h2))
  have h3 : pl.length ≤ 4 := by omega
  have h4 : bl.length ≤ 12 := by omega
  clear h2
  go_wp2_with fail
  refine (rparams_any ⟨pl, pA, pc⟩ _ (HPm.out.below (below_step HU.out (by first | exact HB | exact below_alloc HB _ | exact below_alloc (below_alloc HB _) _ | exact below_alloc (below_alloc (below_alloc HB _) _) _)) (Nat.le_refl _)) HPn.out).mono ?_
  rintro e w1 ⟨rfl, hbN⟩
  replace HB := below_step (by first | exact HB | exact below_alloc HB _ | exact below_alloc (below_alloc HB _) _ | exact below_alloc (below_alloc (below_alloc HB _) _) _) hbN
  clear hbN
  have hc3 := hc _ HB
  have HFl := Lib.hid (fun u (hb : Below U.heap.size U u) => rparams_any ⟨pl, pA, pc⟩ u (HPm.out.below (below_step HU.out hb) (Nat.le_refl _)) HPn.out)
  simp only at HFl HD
  generalize fldsM pl = fe at *
  by_cases k1 : fe = 0
  case neg =>
    have HR2 : Hid (actM p ⟨an, ⟨pl, pA, pc⟩, ⟨bl, bA, bc⟩⟩ = (-1, fe)) := Lib.hid (by rw [HR.out, HD.out, if_pos k1])
    have k1' : (fe == 0) = false := beq_eq_false_iff_ne.2 k1
    clear k1
    go_wp2_with fail
    refine (HFl.out _ (by first | exact HB | exact below_alloc HB _ | exact below_alloc (below_alloc HB _) _ | exact below_alloc (below_alloc (below_alloc HB _) _) _)).mono ?_
    rintro e w2 ⟨rfl, hbN⟩
    replace HB := below_step (by first | exact HB | exact below_alloc HB _ | exact below_alloc (below_alloc HB _) _ | exact below_alloc (below_alloc (below_alloc HB _) _) _) hbN
    clear hbN
    go_wp2
    go_ret2
    exact ⟨ret_pp HR2.out, below_step HW.out (below_step HU.out HB)⟩
  subst k1
  clear HFl
  replace HR : Hid (actM p ⟨an, ⟨pl, pA, pc⟩, ⟨bl, bA, bc⟩⟩ = match firstE bl.length (stAtM p ⟨an, ⟨pl, pA, pc⟩, ⟨bl, bA, bc⟩⟩) with
    | some r => r
    | none => (0, 0)) := Lib.hid (by rw [HR.out, HD.out]; rfl)
  have HB1 := Lib.hid HB
  go_wp2
  clear HB hc3
  go_loopw [7, 8] (fun iv _ wr => ∃ k : Nat, k ≤ bl.length ∧ iv = .int .i64 k ∧ (∀ j, j < k → stAtM p ⟨an, ⟨pl, pA, pc⟩, ⟨bl, bA, bc⟩⟩ j = none) ∧ Below U.heap.size U wr) (fun i _ _ => bl.length - (intOf i).toNat)
  case atStart => exact ⟨0, Nat.zero_le _, rfl, fun j h => absurd h (Nat.not_lt_zero _), HB1.out⟩
  case round =>
    clear HB1
    obtain ⟨k, hk2, rfl, hpre, HB⟩ := hrel
    have HPre := Lib.hid hpre
    clear hpre
    have HAct := HA.out.below (below_step HU.out HB)
    have hc3 := hc _ HB
    by_cases hlt : k < bl.length
    · obtain ⟨g2, of2, hB, hst⟩ := StmtD.atA HAct.body hlt
      have HSO := Lib.hid (HAct.stmts _ (List.getElem_mem hlt))
      have HS2 := Lib.hid (HS.out k hlt)
      simp only at hB HSO HS2 hst
      subst hB
      clear HAct
      generalize bl[k] = s at *
      obtain ⟨kind, dh, df, rg, hd, ⟨il, iA, ic⟩, ⟨vl, vA, vc⟩⟩ := s
      have hlt' : (k : Int) < (bl.length : Int) := by omega
      have hp4 := fun w' (h : Below wr.heap.size wr w') => hp2 w' (below_step HB h)
      have hc4 := fun w' (h : Below wr.heap.size wr w') => hc w' (below_step HB h)
      have hSt := fun u (hb : Below wr.heap.size wr u) => rstatement_any p ⟨pl, pA, pc⟩ ⟨kind, dh, df, rg, hd, ⟨il, iA, ic⟩, ⟨vl, vA, vc⟩⟩ u (HO.out.below (below_step HW.out (below_step HU.out (below_step HB hb)))) (HPm.out.below (below_step HU.out (below_step HB hb)) (Nat.le_refl _)) (HSO.out.below hb)
      simp only [progCells, scopeCells, HAA.out] at hSt
      have HSt := Lib.hid hSt
      have HSc2 := Lib.hid (fun u (hb : Below wr.heap.size wr u) => HSc.out u (below_step HU.out (below_step HB hb)))
      generalize hsm : stmtM p pl ⟨kind, dh, df, rg, hd, ⟨il, iA, ic⟩, ⟨vl, vA, vc⟩⟩ = sm at *
      have HVV := Lib.hid HB
      have H0 := Lib.hid (Below.refl wr.heap.size wr)
      clear HB hp2 hc hSt HSc
      go_wp2
      clear hc3
      go_region_held3 (fun w' => Below wr.heap.size wr w') (first | exact H0.out | exact below_drew H0.out | (exact below_step (by assumption) (by assumption)) | assumption)
        (first | (go_at_call 146; refine (HSc2.out _ (by assumption)).mono ?_; rintro e w1 ⟨rfl, hb1⟩)
               | (go_at_call 145; refine (HSt.out _ (by assumption)).mono ?_; rintro e w1 ⟨rfl, hb1⟩))
      have HB5 : Hid (Below wr.heap.size wr _) := Lib.hid (by assumption)
      have HB := below_step HVV.out HB5.out
      by_cases k1 : sm = 0
      · subst k1
        have HE := Lib.hid (firstE_step HPre.out (HS2.out.trans (if_neg (by simp))))
        go_wp2
        go_roundw
        case rel => exact ⟨k + 1, by omega, by go_num, HE.out, HB⟩
        case measure => simp [intOf]; omega
      · have k1' : (sm == 0) = false := beq_eq_false_iff_ne.2 k1
        have HR2 := Lib.hid (HR.out.trans (show _ = ((k : Int), sm) by rw [firstE_some hlt HPre.out (HS2.out.trans (if_pos k1))]))
        go_wp2
        go_ret2
        exact ⟨ret_pp HR2.out, below_step HW.out (below_step HU.out HB)⟩
    · have e : k = bl.length := by omega
      have HR2 : Hid (actM p ⟨an, ⟨pl, pA, pc⟩, ⟨bl, bA, bc⟩⟩ = (0, 0)) := Lib.hid (by rw [HR.out, firstE_none (by rw [← e]; exact HPre.out)])
      go_wp2
      go_ret2
      exact ⟨ret_pp HR2.out, below_step HW.out (below_step HU.out HB)⟩


set_option maxRecDepth 100000 in
set_option maxHeartbeats 4000000 in
theorem rcheckCall_any (p : ProgD) (ai : Int) (x : L Int) (w : World) (o : ProgOk w p) (hx : LOk w 1 ucell x) (hwf : ∀ v ∈ x.l, (Lit.int .u32 v).wf = true) :
    Calls Tryz.prog 188 #[.agg (progCells p), .agg #[.int .i64 ai, .slice x.A x.l.length x.c]] w fun e w' => e = .returned (.int .i64 (callM p ai x.l)) ∧ Below w.heap.size w w' := by
  obtain ⟨xl, xA, xc⟩ := x
  simp only at hwf ⊢
  have HWF := Lib.hid hwf
  clear hwf
  have HR := Lib.hid (callM_eq p ai xl)
  have hcase : ai < 0 ∨ (0 ≤ ai ∧ (p.actions.l.length : Int) ≤ ai) ∨ ∃ k : Nat, ai = k ∧ k < p.actions.l.length := by
    by_cases h : 0 ≤ ai ∧ ai < p.actions.l.length
    · exact .inr (.inr ⟨ai.toNat, by omega, by omega⟩)
    · omega
  rcases hcase with h1 | ⟨h1, h2⟩ | ⟨i, rfl, hi⟩
  · replace HR := Lib.hid (HR.out.trans (if_pos h1))
    clear o hx
    go_enter Tryz.func188, Tryz.ntmps188
    go_wp2
    go_ret
    exact ⟨by rw [HR.out]; rfl, below2 _ _ _⟩
  · replace HR : Hid (callM p ai xl = 8) := Lib.hid (by rw [HR.out, if_neg (by omega), List.getElem?_eq_none (by omega)])
    clear o hx
    go_enter Tryz.func188, Tryz.ntmps188
    go_wp2
    go_ret
    exact ⟨by rw [HR.out]; rfl, below2 _ _ _⟩
  have HO := Lib.hid o
  obtain ⟨W, hW, hw, HB, hp⟩ := box2 w (progCells p) 31 #[.int .i64 (i : Int), .slice xA xl.length xc] 127
  have HW := Lib.hid hw
  have HA : Hid (ActOk W p.actions.l[i]) := Lib.hid ((o.act _ (List.getElem_mem hi)).below hw)
  have HX := Lib.hid (hx.below hw (Nat.le_refl _))
  obtain ⟨g, of, hA, hq⟩ := ActD.atA (o.actions.below hw (Nat.le_refl _)) hi
  have hn1 : (i : Int) < (p.actions.l.length : Int) := by omega
  replace HR := Lib.hid (HR.out.trans ((if_neg (show ¬ (i : Int) < 0 by omega)).trans (by rw [Int.toNat_natCast, List.getElem?_eq_getElem hi])))
  clear o hw hx
  generalize p.actions.l[i] = a at *
  obtain ⟨an, ⟨pl, pA, pc⟩, ⟨bl, bA, bc⟩⟩ := a
  simp only at HR hq
  simp only [progCells, hA] at hp hW ⊢
  clear hA
  by_cases k1 : xl.length = pl.length
  case neg =>
    replace HR := Lib.hid (HR.out.trans (if_pos k1))
    have k1' : ((xl.length : Int) == (pl.length : Int)) = false := beq_eq_false_iff_ne.2 (by omega)
    go_enter Tryz.func188, Tryz.ntmps188
    go_upto_region 1 with fail
    rw [← hW]
    clear hW
    go_wp2
    go_ret
    exact ⟨by rw [HR.out]; rfl, below_step HW.out HB⟩
  replace HR := Lib.hid (HR.out.trans (if_neg (show ¬ xl.length ≠ pl.length from fun h => h k1)))
  have k1' : ((xl.length : Int) == (pl.length : Int)) = true := by rw [k1]; simp
  have K1 := Lib.hid k1
  clear k1
  have hm := HX.out.1
  unfold maxLen at hm
  go_enter Tryz.func188, Tryz.ntmps188
  go_upto_region 1 with fail
  rw [← hW]
  clear hW
  have HW0 := Lib.hid HB
  go_wp2
  clear HB
  go_loopw [6] (fun iv wr => ∃ k : Nat, k ≤ xl.length ∧ iv = .int .i64 k ∧ (∀ j, j < k → cAtM pl xl j = none) ∧ Below W.heap.size W wr) (fun i _ => xl.length - (intOf i).toNat)
  case atStart => exact ⟨0, Nat.zero_le _, rfl, fun j h => absurd h (Nat.not_lt_zero _), HW0.out⟩
  case round =>
    obtain ⟨k, hk2, rfl, hpre, HB⟩ := hrel
    have HPre := Lib.hid hpre
    clear hpre
    by_cases hlt : k < xl.length
    · have hlt2 : k < pl.length := by have := K1.out; omega
      obtain ⟨g2, of2, hA2, e0⟩ := ucell_at (HX.out.below HB (Nat.le_refl _)) hlt
      obtain ⟨g3, of3, hA3, f0, f1⟩ := FieldD.at (HA.out.params.below HB (Nat.le_refl _)) hlt2
      have HE := Lib.hid (cAtM_at pl xl k hlt hlt2)
      have HV := Lib.hid (HWF.out _ (List.getElem_mem hlt))
      simp only at hA3 f0 f1
      have hj1 : (k : Int) < (pl.length : Int) := by omega
      simp only at hA2
      subst hA2 hA3
      generalize xl[k] = v at *
      generalize pl[k]'hlt2 = y at *
      obtain ⟨yn, yw⟩ := y
      simp only at HE f0 f1
      have hp3 := hp wr HB
      go_wp2
      go_quiet ((go_at_call 208; exact Calls.quiet_of_same (flipC (rfits_any v yw HV.out _))))
      cases hf : fitsM v yw
      · replace HE := Lib.hid (HE.out.trans (if_pos hf))
        have HR2 := Lib.hid (HR.out.trans (show _ = (9 : Int) by rw [firstE_some hlt HPre.out HE.out]))
        go_wp2
        go_ret
        exact ⟨by rw [HR2.out]; rfl, below_step HW.out (below_drewN HB _)⟩
      · replace HE := Lib.hid (HE.out.trans (if_neg (by rw [hf]; simp)))
        go_wp2
        go_roundw
        case rel => exact ⟨k + 1, by omega, by go_num, firstE_step HPre.out HE.out, below_drewN HB _⟩
        case measure => simp [intOf]; omega
    · have e : k = xl.length := by omega
      have hj1 : ¬ (k : Int) < (pl.length : Int) := by have := K1.out; omega
      have HR2 := Lib.hid (HR.out.trans (show _ = (0 : Int) by rw [firstE_none (by rw [← e]; exact HPre.out)]))
      go_wp2
      go_ret
      exact ⟨by rw [HR2.out]; rfl, below_step HW.out HB⟩
end Go.Proofs.YtbfjknidinkafaaGreat

