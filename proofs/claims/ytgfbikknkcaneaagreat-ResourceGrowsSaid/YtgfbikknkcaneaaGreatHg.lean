/- The walks of the reference's scope, check and call check of an action. No condition but that the program lies in memory and its numbers are of their kinds. Walks of the reference's widths of fields. No condition but that the program lies in memory. The walks of the reference's check of a table: index, keys, actions, Check. No condition but that the program lies in memory and its numbers are of their kinds. -/
import Derived.Test.YtgfbikknkcaneaaGreatHf
import Derived.Test.YtgfbikknkcaneaaGreatCkL
import Derived.Test.YtgfbikknkcaneaaGreatBaC
import Derived.RegionTactic
import Derived.Test.YtgfbikknkcaneaaGreatRcB
import Derived.Test.YtgfbikknkcaneaaGreatCkO
namespace Go.Proofs.YtgfbikknkcaneaaGreat
open Go.RowKit

theorem flipC {f : FuncId} {args : Array Value} {w : World} {r : Ending} (h : Calls Tryz.prog f args w fun e w' => e = r ∧ w = w') : Calls Tryz.prog f args w fun e w' => e = r ∧ w' = w := h.mono fun _ _ h => ⟨h.1, h.2.symm⟩
theorem scope_blk {w1 : World} {k : Nat} (h : Blk w1 k 182 #[.string ⟨#[]⟩, .slice none 0 0, .slice none 0 0, .slice none 0 0, .slice none 0 0, .slice none 0 0, .slice none 0 0, .slice none 0 0, .slice none 0 0, .slice none 0 0]) (v0 v1 v2 v3 v4 v5 v6 v7 v8 v9 : Value) :
    Blk ((((((((((w1.setCell ⟨k, 0, none⟩ v0).setCell ⟨k, 1, none⟩ v1).setCell ⟨k, 2, none⟩ v2).setCell ⟨k, 3, none⟩ v3).setCell ⟨k, 4, none⟩ v4).setCell ⟨k, 5, none⟩ v5).setCell ⟨k, 6, none⟩ v6).setCell ⟨k, 7, none⟩ v7).setCell ⟨k, 8, none⟩ v8).setCell ⟨k, 9, none⟩ v9) k 182 #[v0, v1, v2, v3, v4, v5, v6, v7, v8, v9] := by
  have h0 : Blk (w1.setCell ⟨k, 0, none⟩ v0) k 182 #[v0, .slice none 0 0, .slice none 0 0, .slice none 0 0, .slice none 0 0, .slice none 0 0, .slice none 0 0, .slice none 0 0, .slice none 0 0, .slice none 0 0] := h.set_ 0 v0
  clear h
  have h1 : Blk ((w1.setCell ⟨k, 0, none⟩ v0).setCell ⟨k, 1, none⟩ v1) k 182 #[v0, v1, .slice none 0 0, .slice none 0 0, .slice none 0 0, .slice none 0 0, .slice none 0 0, .slice none 0 0, .slice none 0 0, .slice none 0 0] := h0.set_ 1 v1
  clear h0
  have h2 : Blk (((w1.setCell ⟨k, 0, none⟩ v0).setCell ⟨k, 1, none⟩ v1).setCell ⟨k, 2, none⟩ v2) k 182 #[v0, v1, v2, .slice none 0 0, .slice none 0 0, .slice none 0 0, .slice none 0 0, .slice none 0 0, .slice none 0 0, .slice none 0 0] := h1.set_ 2 v2
  clear h1
  have h3 : Blk ((((w1.setCell ⟨k, 0, none⟩ v0).setCell ⟨k, 1, none⟩ v1).setCell ⟨k, 2, none⟩ v2).setCell ⟨k, 3, none⟩ v3) k 182 #[v0, v1, v2, v3, .slice none 0 0, .slice none 0 0, .slice none 0 0, .slice none 0 0, .slice none 0 0, .slice none 0 0] := h2.set_ 3 v3
  clear h2
  have h4 : Blk (((((w1.setCell ⟨k, 0, none⟩ v0).setCell ⟨k, 1, none⟩ v1).setCell ⟨k, 2, none⟩ v2).setCell ⟨k, 3, none⟩ v3).setCell ⟨k, 4, none⟩ v4) k 182 #[v0, v1, v2, v3, v4, .slice none 0 0, .slice none 0 0, .slice none 0 0, .slice none 0 0, .slice none 0 0] := h3.set_ 4 v4
  clear h3
  have h5 : Blk ((((((w1.setCell ⟨k, 0, none⟩ v0).setCell ⟨k, 1, none⟩ v1).setCell ⟨k, 2, none⟩ v2).setCell ⟨k, 3, none⟩ v3).setCell ⟨k, 4, none⟩ v4).setCell ⟨k, 5, none⟩ v5) k 182 #[v0, v1, v2, v3, v4, v5, .slice none 0 0, .slice none 0 0, .slice none 0 0, .slice none 0 0] := h4.set_ 5 v5
  clear h4
  have h6 : Blk (((((((w1.setCell ⟨k, 0, none⟩ v0).setCell ⟨k, 1, none⟩ v1).setCell ⟨k, 2, none⟩ v2).setCell ⟨k, 3, none⟩ v3).setCell ⟨k, 4, none⟩ v4).setCell ⟨k, 5, none⟩ v5).setCell ⟨k, 6, none⟩ v6) k 182 #[v0, v1, v2, v3, v4, v5, v6, .slice none 0 0, .slice none 0 0, .slice none 0 0] := h5.set_ 6 v6
  clear h5
  have h7 : Blk ((((((((w1.setCell ⟨k, 0, none⟩ v0).setCell ⟨k, 1, none⟩ v1).setCell ⟨k, 2, none⟩ v2).setCell ⟨k, 3, none⟩ v3).setCell ⟨k, 4, none⟩ v4).setCell ⟨k, 5, none⟩ v5).setCell ⟨k, 6, none⟩ v6).setCell ⟨k, 7, none⟩ v7) k 182 #[v0, v1, v2, v3, v4, v5, v6, v7, .slice none 0 0, .slice none 0 0] := h6.set_ 7 v7
  clear h6
  have h8 : Blk (((((((((w1.setCell ⟨k, 0, none⟩ v0).setCell ⟨k, 1, none⟩ v1).setCell ⟨k, 2, none⟩ v2).setCell ⟨k, 3, none⟩ v3).setCell ⟨k, 4, none⟩ v4).setCell ⟨k, 5, none⟩ v5).setCell ⟨k, 6, none⟩ v6).setCell ⟨k, 7, none⟩ v7).setCell ⟨k, 8, none⟩ v8) k 182 #[v0, v1, v2, v3, v4, v5, v6, v7, v8, .slice none 0 0] := h7.set_ 8 v8
  clear h7
  have h9 : Blk ((((((((((w1.setCell ⟨k, 0, none⟩ v0).setCell ⟨k, 1, none⟩ v1).setCell ⟨k, 2, none⟩ v2).setCell ⟨k, 3, none⟩ v3).setCell ⟨k, 4, none⟩ v4).setCell ⟨k, 5, none⟩ v5).setCell ⟨k, 6, none⟩ v6).setCell ⟨k, 7, none⟩ v7).setCell ⟨k, 8, none⟩ v8).setCell ⟨k, 9, none⟩ v9) k 182 #[v0, v1, v2, v3, v4, v5, v6, v7, v8, v9] := h8.set_ 9 v9
  clear h8
  exact h9
set_option maxRecDepth 100000 in
set_option maxHeartbeats 4000000 in
theorem rscope_any (p : ProgD) (i : Nat) (hi : i < p.actions.l.length) (w : World) (o : ProgOk w p) :
    Calls Tryz.prog 153 #[.agg (progCells p), .int .i64 i] w fun e w' => e = .returned (.agg (scopeCells p p.actions.l[i].params)) ∧ Below w.heap.size w w' := by
  obtain ⟨W, hW, hw, HB, hS, hpq⟩ := boxC w (progCells p) 31 #[.string ⟨#[]⟩, .slice none 0 0, .slice none 0 0, .slice none 0 0, .slice none 0 0, .slice none 0 0, .slice none 0 0, .slice none 0 0, .slice none 0 0, .slice none 0 0] 182
  obtain ⟨g, of, hA, hq⟩ := ActD.atA (o.actions.below hw (Nat.le_refl _)) hi
  have hn1 : (i : Int) < (p.actions.l.length : Int) := by omega
  clear o
  have HQ := Lib.hid (fun w' h => (hpq w' h).2.2.2.2)
  have hp := fun w' h => (⟨(hpq w' h).1, (hpq w' h).2.1, (hpq w' h).2.2.1, (hpq w' h).2.2.2.1⟩ : _ ∧ _ ∧ _ ∧ _)
  clear hpq
  have HW := Lib.hid hw
  generalize p.actions.l[i] = a at *
  obtain ⟨an, ⟨pl, pA, pc⟩, ⟨bl, bA, bc⟩⟩ := a
  simp only at hq
  have HAA := Lib.hid hA
  simp only [progCells, scopeCells, hA] at hp hW ⊢
  clear hA hw hS
  go_enter Tryz.func153, Tryz.ntmps153
  go_upto_region 1 with fail
  rw [← hW]
  clear hW
  have hp3 := hp W HB
  have hq3 := hq W HB
  clear hp hq
  go_region
  go_wp2
  have hb := (scope_blk (HQ.out W HB) (.string p.name) (.slice p.headers.A p.headers.l.length p.headers.c) (.slice p.metadata.A p.metadata.l.length p.metadata.c) (.slice p.registers.A p.registers.l.length p.registers.c) (.slice (some ⟨g, of, none⟩) p.actions.l.length p.actions.c) (.slice p.tables.A p.tables.l.length p.tables.c) (.slice p.states.A p.states.l.length p.states.c) (.slice p.control.A p.control.l.length p.control.c) (.slice p.deparser.A p.deparser.l.length p.deparser.c) (.slice pA pl.length pc)).drew
  refine bodyPost_ret (v := .agg #[.string p.name, .slice p.headers.A p.headers.l.length p.headers.c, .slice p.metadata.A p.metadata.l.length p.metadata.c, .slice p.registers.A p.registers.l.length p.registers.c, .slice (some ⟨g, of, none⟩) p.actions.l.length p.actions.c, .slice p.tables.A p.tables.l.length p.tables.c, .slice p.states.A p.states.l.length p.states.c, .slice p.control.A p.control.l.length p.control.c, .slice p.deparser.A p.deparser.l.length p.deparser.c, .slice pA pl.length pc]) ?_ rfl ?_
  · exact results_cell_row (fn := Tryz.f153) (p := 4) (ty := 182) rfl _ _ (w.heap.size + 1) 182 _ (0, 0) _ rfl hb Tryz.underlying182 rfl (by kernel_rfl)
  · refine ⟨rfl, Below.drew ?_⟩
    (repeat refine Below.setCell ?_ (Nat.le_succ _) _)
    exact below_step HW.out HB

/-- the error of a declaration, the fields' first error named -/
theorem declarM_eq (a : ActD) : declarM a = if ident a.name = false then 6 else if 4 < a.params.l.length ∨ 12 < a.body.l.length then 12 else fldsM a.params.l := rfl
set_option maxRecDepth 100000 in
set_option maxHeartbeats 16000000 in
theorem ractionCheck_any (p : ProgD) (i : Nat) (hi : i < p.actions.l.length) (w : World) (o : ProgOk w p) :
    Calls Tryz.prog 102 #[.agg (progCells p), .int .i64 i] w fun e w' => e = .returned (.tuple #[.int .i64 (actM p p.actions.l[i]).1, .int .i64 (actM p p.actions.l[i]).2]) ∧ Below w.heap.size w w' := by
  have HO := Lib.hid o
  obtain ⟨W, hW, hw, HB, hp⟩ := box1 w (progCells p) 31
  have HW := Lib.hid hw
  have HA : Hid (ActOk W p.actions.l[i]) := Lib.hid ((o.act _ (List.getElem_mem hi)).below hw)
  have HR := Lib.hid (actM_eq p p.actions.l[i])
  have HD := Lib.hid (declarM_eq p.actions.l[i])
  have HS := Lib.hid (stAtM_at p p.actions.l[i])
  have hsc := fun u (hb : Below W.heap.size W u) => rscope_any p i hi u (o.below (below_step hw hb))
  obtain ⟨g, of, hA, hq⟩ := ActD.atA (o.actions.below hw (Nat.le_refl _)) hi
  have hn1 : (i : Int) < (p.actions.l.length : Int) := by omega
  clear o hw
  generalize p.actions.l[i] = a at *
  obtain ⟨an, ⟨pl, pA, pc⟩, ⟨bl, bA, bc⟩⟩ := a
  simp only at HR HS hq HD
  have HAA := Lib.hid hA
  simp only [progCells, hA] at hp hW ⊢
  simp only [progCells, scopeCells, hA] at hsc
  have HSc := Lib.hid hsc
  clear hA hsc
  have HNm : Hid (an.size ≤ maxLen) := Lib.hid HA.out.name
  have HPm := Lib.hid HA.out.params
  have HPn := Lib.hid HA.out.pnames
  simp only at HPm HPn
  go_enter Tryz.func102, Tryz.ntmps102
  go_upto_region 1 with fail
  rw [← hW]
  clear hW
  refine Exists.elim (box1 W #[.string an, .slice pA pl.length pc, .slice bA bl.length bc] 68) ?_
  rintro U ⟨hU, hu, hUU, hc⟩
  go_upto_region 4 with fail
  rw [← hU]
  clear hU
  have HU := Lib.hid hu
  have hp2 := fun w' h => hp w' (below_step hu h)
  replace HB := hUU
  clear hp hUU hu hq
  go_wp2_with fail
  refine (risIdent_any an _ HNm.out).mono ?_
  rintro e w' ⟨rfl, rfl⟩
  cases h1 : identM an.data.toList
  · have HD2 := Lib.hid (HD.out.trans (if_pos (show ident an = false from h1)))
    have HR2 : Hid (actM p ⟨an, ⟨pl, pA, pc⟩, ⟨bl, bA, bc⟩⟩ = (-1, 6)) := Lib.hid (by rw [HR.out, HD2.out]; rfl)
    go_wp2
    go_ret2
    exact ⟨ret_pp HR2.out, below_step HW.out (below_step HU.out HB)⟩
  replace HD := Lib.hid (HD.out.trans (if_neg (show ¬ ident an = false by rw [show ident an = true from h1]; simp)))
  clear h1
  by_cases h2 : 4 < pl.length ∨ 12 < bl.length
  · have HD2 := Lib.hid (HD.out.trans (if_pos h2))
    have HR2 : Hid (actM p ⟨an, ⟨pl, pA, pc⟩, ⟨bl, bA, bc⟩⟩ = (-1, 12)) := Lib.hid (by rw [HR.out, HD2.out]; rfl)
    have h2' : 4 < pl.length ∨ (pl.length ≤ 4 ∧ 12 < bl.length) := by omega
    rcases h2' with h2 | ⟨h2, h3⟩
    all_goals
      go_wp2
      go_ret2
      exact ⟨ret_pp HR2.out, below_step HW.out (below_step HU.out HB)⟩
  replace HD := Lib.hid (HD.out.trans (if_neg h2))
  have h3 : pl.length ≤ 4 := by omega
  have h4 : bl.length ≤ 12 := by omega
  clear h2
  go_wp2_with fail
  refine (rparams_any ⟨pl, pA, pc⟩ _ (HPm.out.below (below_step HU.out (by first | exact HB | exact below_alloc HB _ | exact below_alloc (below_alloc HB _) _ | exact below_alloc (below_alloc (below_alloc HB _) _) _)) (Nat.le_refl _)) HPn.out).mono ?_
  rintro e w1 ⟨rfl, hbN⟩
  replace HB := below_step (by first | exact HB | exact below_alloc HB _ | exact below_alloc (below_alloc HB _) _ | exact below_alloc (below_alloc (below_alloc HB _) _) _) hbN
  clear hbN
  have hc3 := hc _ HB
  have HFl := Lib.hid (fun u (hb : Below U.heap.size U u) => rparams_any ⟨pl, pA, pc⟩ u (HPm.out.below (below_step HU.out hb) (Nat.le_refl _)) HPn.out)
  simp only at HFl HD
  generalize fldsM pl = fe at *
  by_cases k1 : fe = 0
  case neg =>
    have HR2 : Hid (actM p ⟨an, ⟨pl, pA, pc⟩, ⟨bl, bA, bc⟩⟩ = (-1, fe)) := Lib.hid (by rw [HR.out, HD.out, if_pos k1])
    have k1' : (fe == 0) = false := beq_eq_false_iff_ne.2 k1
    clear k1
    go_wp2_with fail
    refine (HFl.out _ (by first | exact HB | exact below_alloc HB _ | exact below_alloc (below_alloc HB _) _ | exact below_alloc (below_alloc (below_alloc HB _) _) _)).mono ?_
    rintro e w2 ⟨rfl, hbN⟩
    replace HB := below_step (by first | exact HB | exact below_alloc HB _ | exact below_alloc (below_alloc HB _) _ | exact below_alloc (below_alloc (below_alloc HB _) _) _) hbN
    clear hbN
    go_wp2
    go_ret2
    exact ⟨ret_pp HR2.out, below_step HW.out (below_step HU.out HB)⟩
  subst k1
  clear HFl
  replace HR : Hid (actM p ⟨an, ⟨pl, pA, pc⟩, ⟨bl, bA, bc⟩⟩ = match firstE bl.length (stAtM p ⟨an, ⟨pl, pA, pc⟩, ⟨bl, bA, bc⟩⟩) with
    | some r => r
    | none => (0, 0)) := Lib.hid (by rw [HR.out, HD.out]; rfl)
  have HB1 := Lib.hid HB
  go_wp2
  clear HB hc3
  go_loopw [7, 8] (fun iv _ wr => ∃ k : Nat, k ≤ bl.length ∧ iv = .int .i64 k ∧ (∀ j, j < k → stAtM p ⟨an, ⟨pl, pA, pc⟩, ⟨bl, bA, bc⟩⟩ j = none) ∧ Below U.heap.size U wr) (fun i _ _ => bl.length - (intOf i).toNat)
  case atStart => exact ⟨0, Nat.zero_le _, rfl, fun j h => absurd h (Nat.not_lt_zero _), HB1.out⟩
  case round =>
    clear HB1
    obtain ⟨k, hk2, rfl, hpre, HB⟩ := hrel
    have HPre := Lib.hid hpre
    clear hpre
    have HAct := HA.out.below (below_step HU.out HB)
    have hc3 := hc _ HB
    by_cases hlt : k < bl.length
    · obtain ⟨g2, of2, hB, hst⟩ := StmtD.atA HAct.body hlt
      have HSO := Lib.hid (HAct.stmts _ (List.getElem_mem hlt))
      have HS2 := Lib.hid (HS.out k hlt)
      simp only at hB HSO HS2 hst
      subst hB
      clear HAct
      generalize bl[k] = s at *
      obtain ⟨kind, dh, df, rg, hd, ⟨il, iA, ic⟩, ⟨vl, vA, vc⟩⟩ := s
      have hlt' : (k : Int) < (bl.length : Int) := by omega
      have hp4 := fun w' (h : Below wr.heap.size wr w') => hp2 w' (below_step HB h)
      have hc4 := fun w' (h : Below wr.heap.size wr w') => hc w' (below_step HB h)
      have hSt := fun u (hb : Below wr.heap.size wr u) => rstatement_any p ⟨pl, pA, pc⟩ ⟨kind, dh, df, rg, hd, ⟨il, iA, ic⟩, ⟨vl, vA, vc⟩⟩ u (HO.out.below (below_step HW.out (below_step HU.out (below_step HB hb)))) (HPm.out.below (below_step HU.out (below_step HB hb)) (Nat.le_refl _)) (HSO.out.below hb)
      simp only [progCells, scopeCells, HAA.out] at hSt
      have HSt := Lib.hid hSt
      have HSc2 := Lib.hid (fun u (hb : Below wr.heap.size wr u) => HSc.out u (below_step HU.out (below_step HB hb)))
      generalize hsm : stmtM p pl ⟨kind, dh, df, rg, hd, ⟨il, iA, ic⟩, ⟨vl, vA, vc⟩⟩ = sm at *
      have HVV := Lib.hid HB
      have H0 := Lib.hid (Below.refl wr.heap.size wr)
      clear HB hp2 hc hSt HSc
      go_wp2
      clear hc3
      go_region_held3 (fun w' => Below wr.heap.size wr w') (first | exact H0.out | exact below_drew H0.out | (exact below_step (by assumption) (by assumption)) | assumption)
        (first | (go_at_call 153; refine (HSc2.out _ (by assumption)).mono ?_; rintro e w1 ⟨rfl, hb1⟩)
               | (go_at_call 152; refine (HSt.out _ (by assumption)).mono ?_; rintro e w1 ⟨rfl, hb1⟩))
      have HB5 : Hid (Below wr.heap.size wr _) := Lib.hid (by assumption)
      have HB := below_step HVV.out HB5.out
      by_cases k1 : sm = 0
      · subst k1
        have HE := Lib.hid (firstE_step HPre.out (HS2.out.trans (if_neg (by simp))))
        go_wp2
        go_roundw
        case rel => exact ⟨k + 1, by omega, by go_num, HE.out, HB⟩
        case measure => simp [intOf]; omega
      · have k1' : (sm == 0) = false := beq_eq_false_iff_ne.2 k1
        have HR2 := Lib.hid (HR.out.trans (show _ = ((k : Int), sm) by rw [firstE_some hlt HPre.out (HS2.out.trans (if_pos k1))]))
        go_wp2
        go_ret2
        exact ⟨ret_pp HR2.out, below_step HW.out (below_step HU.out HB)⟩
    · have e : k = bl.length := by omega
      have HR2 : Hid (actM p ⟨an, ⟨pl, pA, pc⟩, ⟨bl, bA, bc⟩⟩ = (0, 0)) := Lib.hid (by rw [HR.out, firstE_none (by rw [← e]; exact HPre.out)])
      go_wp2
      go_ret2
      exact ⟨ret_pp HR2.out, below_step HW.out (below_step HU.out HB)⟩


set_option maxRecDepth 100000 in
set_option maxHeartbeats 4000000 in
theorem rcheckCall_any (p : ProgD) (ai : Int) (x : L Int) (w : World) (o : ProgOk w p) (hx : LOk w 1 ucell x) (hwf : ∀ v ∈ x.l, (Lit.int .u32 v).wf = true) :
    Calls Tryz.prog 185 #[.agg (progCells p), .agg #[.int .i64 ai, .slice x.A x.l.length x.c]] w fun e w' => e = .returned (.int .i64 (callM p ai x.l)) ∧ Below w.heap.size w w' := by
  obtain ⟨xl, xA, xc⟩ := x
  simp only at hwf ⊢
  have HWF := Lib.hid hwf
  clear hwf
  have HR := Lib.hid (callM_eq p ai xl)
  have hcase : ai < 0 ∨ (0 ≤ ai ∧ (p.actions.l.length : Int) ≤ ai) ∨ ∃ k : Nat, ai = k ∧ k < p.actions.l.length := by
    by_cases h : 0 ≤ ai ∧ ai < p.actions.l.length
    · exact .inr (.inr ⟨ai.toNat, by omega, by omega⟩)
    · omega
  rcases hcase with h1 | ⟨h1, h2⟩ | ⟨i, rfl, hi⟩
  · replace HR := Lib.hid (HR.out.trans (if_pos h1))
    clear o hx
    go_enter Tryz.func185, Tryz.ntmps185
    go_wp2
    go_ret
    exact ⟨by rw [HR.out]; rfl, below2 _ _ _⟩
  · replace HR : Hid (callM p ai xl = 8) := Lib.hid (by rw [HR.out, if_neg (by omega), List.getElem?_eq_none (by omega)])
    clear o hx
    go_enter Tryz.func185, Tryz.ntmps185
    go_wp2
    go_ret
    exact ⟨by rw [HR.out]; rfl, below2 _ _ _⟩
  have HO := Lib.hid o
  obtain ⟨W, hW, hw, HB, hp⟩ := box2 w (progCells p) 31 #[.int .i64 (i : Int), .slice xA xl.length xc] 50
  have HW := Lib.hid hw
  have HA : Hid (ActOk W p.actions.l[i]) := Lib.hid ((o.act _ (List.getElem_mem hi)).below hw)
  have HX := Lib.hid (hx.below hw (Nat.le_refl _))
  obtain ⟨g, of, hA, hq⟩ := ActD.atA (o.actions.below hw (Nat.le_refl _)) hi
  have hn1 : (i : Int) < (p.actions.l.length : Int) := by omega
  replace HR := Lib.hid (HR.out.trans ((if_neg (show ¬ (i : Int) < 0 by omega)).trans (by rw [Int.toNat_natCast, List.getElem?_eq_getElem hi])))
  clear o hw hx
  generalize p.actions.l[i] = a at *
  obtain ⟨an, ⟨pl, pA, pc⟩, ⟨bl, bA, bc⟩⟩ := a
  simp only at HR hq
  simp only [progCells, hA] at hp hW ⊢
  clear hA
  by_cases k1 : xl.length = pl.length
  case neg =>
    replace HR := Lib.hid (HR.out.trans (if_pos k1))
    have k1' : ((xl.length : Int) == (pl.length : Int)) = false := beq_eq_false_iff_ne.2 (by omega)
    go_enter Tryz.func185, Tryz.ntmps185
    go_upto_region 1 with fail
    rw [← hW]
    clear hW
    go_wp2
    go_ret
    exact ⟨by rw [HR.out]; rfl, below_step HW.out HB⟩
  replace HR := Lib.hid (HR.out.trans (if_neg (show ¬ xl.length ≠ pl.length from fun h => h k1)))
  have k1' : ((xl.length : Int) == (pl.length : Int)) = true := by rw [k1]; simp
  have K1 := Lib.hid k1
  clear k1
  have hm := HX.out.1
  unfold maxLen at hm
  go_enter Tryz.func185, Tryz.ntmps185
  go_upto_region 1 with fail
  rw [← hW]
  clear hW
  have HW0 := Lib.hid HB
  go_wp2
  clear HB
  go_loopw [6] (fun iv wr => ∃ k : Nat, k ≤ xl.length ∧ iv = .int .i64 k ∧ (∀ j, j < k → cAtM pl xl j = none) ∧ Below W.heap.size W wr) (fun i _ => xl.length - (intOf i).toNat)
  case atStart => exact ⟨0, Nat.zero_le _, rfl, fun j h => absurd h (Nat.not_lt_zero _), HW0.out⟩
  case round =>
    obtain ⟨k, hk2, rfl, hpre, HB⟩ := hrel
    have HPre := Lib.hid hpre
    clear hpre
    by_cases hlt : k < xl.length
    · have hlt2 : k < pl.length := by have := K1.out; omega
      obtain ⟨g2, of2, hA2, e0⟩ := ucell_at (HX.out.below HB (Nat.le_refl _)) hlt
      obtain ⟨g3, of3, hA3, f0, f1⟩ := FieldD.at (HA.out.params.below HB (Nat.le_refl _)) hlt2
      have HE := Lib.hid (cAtM_at pl xl k hlt hlt2)
      have HV := Lib.hid (HWF.out _ (List.getElem_mem hlt))
      simp only at hA3 f0 f1
      have hj1 : (k : Int) < (pl.length : Int) := by omega
      simp only at hA2
      subst hA2 hA3
      generalize xl[k] = v at *
      generalize pl[k]'hlt2 = y at *
      obtain ⟨yn, yw⟩ := y
      simp only at HE f0 f1
      have hp3 := hp wr HB
      go_wp2
      go_quiet ((go_at_call 207; exact Calls.quiet_of_same (flipC (rfits_any v yw HV.out _))))
      cases hf : fitsM v yw
      · replace HE := Lib.hid (HE.out.trans (if_pos hf))
        have HR2 := Lib.hid (HR.out.trans (show _ = (9 : Int) by rw [firstE_some hlt HPre.out HE.out]))
        go_wp2
        go_ret
        exact ⟨by rw [HR2.out]; rfl, below_step HW.out (below_drewN HB _)⟩
      · replace HE := Lib.hid (HE.out.trans (if_neg (by rw [hf]; simp)))
        go_wp2
        go_roundw
        case rel => exact ⟨k + 1, by omega, by go_num, firstE_step HPre.out HE.out, below_drewN HB _⟩
        case measure => simp [intOf]; omega
    · have e : k = xl.length := by omega
      have hj1 : ¬ (k : Int) < (pl.length : Int) := by have := K1.out; omega
      have HR2 := Lib.hid (HR.out.trans (show _ = (0 : Int) by rw [firstE_none (by rw [← e]; exact HPre.out)]))
      go_wp2
      go_ret
      exact ⟨by rw [HR2.out]; rfl, below_step HW.out HB⟩
end Go.Proofs.YtgfbikknkcaneaaGreat
namespace Go.Proofs.YtgfbikknkcaneaaGreat
open Go.RowKit

set_option maxRecDepth 100000 in
set_option maxHeartbeats 4000000 in
theorem rwidth12_any (p : ProgD) (h f : Int) (w : World) (o : ProgOk w p) :
    Calls Tryz.prog 186 #[.agg (progCells p), .agg #[.int .i64 h, .int .i64 f]] w fun e w' => e = .returned (.int .i64 (widthAt p h f)) ∧ Below w.heap.size w w' := by
  have HO := Lib.hid o
  have HWd := Lib.hid (widthAt_decl p h f)
  clear o
  have hca := @World.cell?_alloc_some
  rcases fieldsOf_cases p h with ⟨rfl, hx⟩ | ⟨h1, h2, hx⟩ | ⟨k, hk, rfl, hx⟩
  · rcases declF_cases hx f with ⟨h3, hd⟩ | ⟨j, hj, rfl, hd⟩
    · have HR : Hid (widthAt p (-1) f = 0) := Lib.hid (by rw [HWd.out, hd])
      clear hd hx HWd
      by_cases h4 : f < 0
      · clear h3
        go_enter Tryz.func186, Tryz.ntmps186
        go_wp2
        go_ret
        exact ⟨by rw [HR.out]; rfl, below2 _ _ _⟩
      · have h5 : (p.metadata.l.length : Int) ≤ f := by omega
        clear h3
        go_enter Tryz.func186, Tryz.ntmps186
        go_wp2
        go_ret
        exact ⟨by rw [HR.out]; rfl, below2 _ _ _⟩
    · obtain ⟨g, of, hA, d0, d1⟩ := FieldD.at HO.out.metadata hj
      simp only [progCells, hA]
      have HR : Hid (widthAt p (-1) j = if okW p.metadata.l[j].width = true then p.metadata.l[j].width else 0) := Lib.hid (by rw [HWd.out, hd])
      clear hd hx hA HWd
      generalize p.metadata.l[j] = y at *
      generalize y.width = n at *
      by_cases h6 : n < 1
      · have HR2 := Lib.hid (show widthAt p (-1) j = 0 by rw [HR.out, okW_not.2 (.inl h6)]; rfl)
        clear HR
        go_enter Tryz.func186, Tryz.ntmps186
        go_wp2
        go_ret
        exact ⟨by rw [HR2.out]; rfl, below2 _ _ _⟩
      by_cases h7 : 32 < n
      · have HR2 := Lib.hid (show widthAt p (-1) j = 0 by rw [HR.out, okW_not.2 (.inr h7)]; rfl)
        clear HR
        go_enter Tryz.func186, Tryz.ntmps186
        go_wp2
        go_ret
        exact ⟨by rw [HR2.out]; rfl, below2 _ _ _⟩
      have HR2 := Lib.hid (show widthAt p (-1) j = n by rw [HR.out, okW_iff.2 ⟨by omega, by omega⟩]; rfl)
      clear HR
      go_enter Tryz.func186, Tryz.ntmps186
      go_wp2
      go_ret
      exact ⟨by rw [HR2.out]; rfl, below2 _ _ _⟩
  · have HR : Hid (widthAt p h f = 0) := Lib.hid (by rw [HWd.out, declF_none hx f])
    clear hx HWd
    by_cases h4 : h < 0
    · have h5 : h < -1 := by omega
      clear h2
      go_enter Tryz.func186, Tryz.ntmps186
      go_wp2
      go_ret
      exact ⟨by rw [HR.out]; rfl, below2 _ _ _⟩
    · have h5 : (p.headers.l.length : Int) ≤ h := by omega
      clear h2
      go_enter Tryz.func186, Tryz.ntmps186
      go_wp2
      go_ret
      exact ⟨by rw [HR.out]; rfl, below2 _ _ _⟩
  · obtain ⟨g, of, hA, d0, d1⟩ := HeaderD.at HO.out.headers hk
    have HF := Lib.hid (HO.out.hdr _ (List.getElem_mem hk)).fields
    simp only [progCells, hA]
    clear hA
    generalize p.headers.l[k] = x at *
    obtain ⟨xn, ⟨fl, fA, fc⟩⟩ := x
    simp only [L.v] at d1
    rcases declF_cases hx f with ⟨h3, hd⟩ | ⟨j, hj, rfl, hd⟩
    · have HR : Hid (widthAt p k f = 0) := Lib.hid (by rw [HWd.out, hd])
      simp only at h3
      clear hd hx HWd
      by_cases h4 : f < 0
      · clear h3
        go_enter Tryz.func186, Tryz.ntmps186
        go_wp2
        go_ret
        exact ⟨by rw [HR.out]; rfl, below2 _ _ _⟩
      · have h5 : (fl.length : Int) ≤ f := by omega
        clear h3
        go_enter Tryz.func186, Tryz.ntmps186
        go_wp2
        go_ret
        exact ⟨by rw [HR.out]; rfl, below2 _ _ _⟩
    · simp only at hj
      have HR : Hid (widthAt p k j = if okW fl[j].width = true then fl[j].width else 0) := Lib.hid (by rw [HWd.out, hd])
      obtain ⟨g2, of2, hA, e0, e1⟩ := FieldD.at HF.out hj
      simp only at hA e0 e1
      subst hA
      clear hd hx HWd
      generalize fl[j] = y at *
      generalize y.width = n at *
      by_cases h6 : n < 1
      · have HR2 := Lib.hid (show widthAt p k j = 0 by rw [HR.out, okW_not.2 (.inl h6)]; rfl)
        clear HR
        go_enter Tryz.func186, Tryz.ntmps186
        go_wp2
        go_ret
        exact ⟨by rw [HR2.out]; rfl, below2 _ _ _⟩
      by_cases h7 : 32 < n
      · have HR2 := Lib.hid (show widthAt p k j = 0 by rw [HR.out, okW_not.2 (.inr h7)]; rfl)
        clear HR
        go_enter Tryz.func186, Tryz.ntmps186
        go_wp2
        go_ret
        exact ⟨by rw [HR2.out]; rfl, below2 _ _ _⟩
      have HR2 := Lib.hid (show widthAt p k j = n by rw [HR.out, okW_iff.2 ⟨by omega, by omega⟩]; rfl)
      clear HR
      go_enter Tryz.func186, Tryz.ntmps186
      go_wp2
      go_ret
      exact ⟨by rw [HR2.out]; rfl, below2 _ _ _⟩
set_option maxRecDepth 100000 in
set_option maxHeartbeats 4000000 in
theorem rwidth17_any (p : ProgD) (h f : Int) (w : World) (o : ProgOk w p) :
    Calls Tryz.prog 150 #[.agg (progCells p), .agg #[.int .i64 h, .int .i64 f]] w fun e w' => e = .returned (.int .i64 (widthAt p h f)) ∧ Below w.heap.size w w' := by
  have HO := Lib.hid o
  have HWd := Lib.hid (widthAt_decl p h f)
  clear o
  have hca := @World.cell?_alloc_some
  rcases fieldsOf_cases p h with ⟨rfl, hx⟩ | ⟨h1, h2, hx⟩ | ⟨k, hk, rfl, hx⟩
  · rcases declF_cases hx f with ⟨h3, hd⟩ | ⟨j, hj, rfl, hd⟩
    · have HR : Hid (widthAt p (-1) f = 0) := Lib.hid (by rw [HWd.out, hd])
      clear hd hx HWd
      by_cases h4 : f < 0
      · clear h3
        go_enter Tryz.func150, Tryz.ntmps150
        go_wp2
        go_ret
        exact ⟨by rw [HR.out]; rfl, below2 _ _ _⟩
      · have h5 : (p.metadata.l.length : Int) ≤ f := by omega
        clear h3
        go_enter Tryz.func150, Tryz.ntmps150
        go_wp2
        go_ret
        exact ⟨by rw [HR.out]; rfl, below2 _ _ _⟩
    · obtain ⟨g, of, hA, d0, d1⟩ := FieldD.at HO.out.metadata hj
      simp only [progCells, hA]
      have HR : Hid (widthAt p (-1) j = if okW p.metadata.l[j].width = true then p.metadata.l[j].width else 0) := Lib.hid (by rw [HWd.out, hd])
      clear hd hx hA HWd
      generalize p.metadata.l[j] = y at *
      generalize y.width = n at *
      by_cases h6 : n < 1
      · have HR2 := Lib.hid (show widthAt p (-1) j = 0 by rw [HR.out, okW_not.2 (.inl h6)]; rfl)
        clear HR
        go_enter Tryz.func150, Tryz.ntmps150
        go_wp2
        go_ret
        exact ⟨by rw [HR2.out]; rfl, below2 _ _ _⟩
      by_cases h7 : 32 < n
      · have HR2 := Lib.hid (show widthAt p (-1) j = 0 by rw [HR.out, okW_not.2 (.inr h7)]; rfl)
        clear HR
        go_enter Tryz.func150, Tryz.ntmps150
        go_wp2
        go_ret
        exact ⟨by rw [HR2.out]; rfl, below2 _ _ _⟩
      have HR2 := Lib.hid (show widthAt p (-1) j = n by rw [HR.out, okW_iff.2 ⟨by omega, by omega⟩]; rfl)
      clear HR
      go_enter Tryz.func150, Tryz.ntmps150
      go_wp2
      go_ret
      exact ⟨by rw [HR2.out]; rfl, below2 _ _ _⟩
  · have HR : Hid (widthAt p h f = 0) := Lib.hid (by rw [HWd.out, declF_none hx f])
    clear hx HWd
    by_cases h4 : h < 0
    · have h5 : h < -1 := by omega
      clear h2
      go_enter Tryz.func150, Tryz.ntmps150
      go_wp2
      go_ret
      exact ⟨by rw [HR.out]; rfl, below2 _ _ _⟩
    · have h5 : (p.headers.l.length : Int) ≤ h := by omega
      clear h2
      go_enter Tryz.func150, Tryz.ntmps150
      go_wp2
      go_ret
      exact ⟨by rw [HR.out]; rfl, below2 _ _ _⟩
  · obtain ⟨g, of, hA, d0, d1⟩ := HeaderD.at HO.out.headers hk
    have HF := Lib.hid (HO.out.hdr _ (List.getElem_mem hk)).fields
    simp only [progCells, hA]
    clear hA
    generalize p.headers.l[k] = x at *
    obtain ⟨xn, ⟨fl, fA, fc⟩⟩ := x
    simp only [L.v] at d1
    rcases declF_cases hx f with ⟨h3, hd⟩ | ⟨j, hj, rfl, hd⟩
    · have HR : Hid (widthAt p k f = 0) := Lib.hid (by rw [HWd.out, hd])
      simp only at h3
      clear hd hx HWd
      by_cases h4 : f < 0
      · clear h3
        go_enter Tryz.func150, Tryz.ntmps150
        go_wp2
        go_ret
        exact ⟨by rw [HR.out]; rfl, below2 _ _ _⟩
      · have h5 : (fl.length : Int) ≤ f := by omega
        clear h3
        go_enter Tryz.func150, Tryz.ntmps150
        go_wp2
        go_ret
        exact ⟨by rw [HR.out]; rfl, below2 _ _ _⟩
    · simp only at hj
      have HR : Hid (widthAt p k j = if okW fl[j].width = true then fl[j].width else 0) := Lib.hid (by rw [HWd.out, hd])
      obtain ⟨g2, of2, hA, e0, e1⟩ := FieldD.at HF.out hj
      simp only at hA e0 e1
      subst hA
      clear hd hx HWd
      generalize fl[j] = y at *
      generalize y.width = n at *
      by_cases h6 : n < 1
      · have HR2 := Lib.hid (show widthAt p k j = 0 by rw [HR.out, okW_not.2 (.inl h6)]; rfl)
        clear HR
        go_enter Tryz.func150, Tryz.ntmps150
        go_wp2
        go_ret
        exact ⟨by rw [HR2.out]; rfl, below2 _ _ _⟩
      by_cases h7 : 32 < n
      · have HR2 := Lib.hid (show widthAt p k j = 0 by rw [HR.out, okW_not.2 (.inr h7)]; rfl)
        clear HR
        go_enter Tryz.func150, Tryz.ntmps150
        go_wp2
        go_ret
        exact ⟨by rw [HR2.out]; rfl, below2 _ _ _⟩
      have HR2 := Lib.hid (show widthAt p k j = n by rw [HR.out, okW_iff.2 ⟨by omega, by omega⟩]; rfl)
      clear HR
      go_enter Tryz.func150, Tryz.ntmps150
      go_wp2
      go_ret
      exact ⟨by rw [HR2.out]; rfl, below2 _ _ _⟩
end Go.Proofs.YtgfbikknkcaneaaGreat
namespace Go.Proofs.YtgfbikknkcaneaaGreat
open Go.RowKit

theorem firstE_ex {α : Type} {f : Nat → Option α} {r : α} : ∀ {n : Nat}, firstE n f = some r → ∃ i, i < n ∧ f i = some r ∧ ∀ j, j < i → f j = none
  | 0, h => by cases h
  | n + 1, h => by
    rw [firstE] at h
    rcases hf : firstE n f with _ | x
    · rw [hf] at h
      exact ⟨n, by omega, h, firstE_inv hf⟩
    · rw [hf] at h
      simp only [Option.some.injEq] at h
      subst h
      obtain ⟨i, h1, h2, h3⟩ := firstE_ex hf
      exact ⟨i, by omega, h2, h3⟩
/-- the first place of a number, or -1 -/
def idxAt (l : List Int) (n : Int) (k : Nat) : Option Int := match l[k]? with
  | none => none
  | some x => if x = n then some (k : Int) else none
def idxM (l : List Int) (n : Int) : Int := match firstE l.length (idxAt l n) with
  | some r => r
  | none => -1
theorem idxAt_at (l : List Int) (n : Int) (k : Nat) (h : k < l.length) : idxAt l n k = if l[k] = n then some (k : Int) else none := by
  rw [idxAt, List.getElem?_eq_getElem h]
theorem idxM_cases (l : List Int) (n : Int) : (idxM l n = -1 ∧ n ∉ l) ∨ ∃ k : Nat, ∃ h : k < l.length, idxM l n = k ∧ l[k] = n ∧ ∀ j (hj : j < l.length), j < k → l[j] ≠ n := by
  unfold idxM
  rcases hf : firstE l.length (idxAt l n) with _ | r
  · refine .inl ⟨rfl, fun hm => ?_⟩
    obtain ⟨k, hk, e⟩ := List.mem_iff_getElem.1 hm
    have h := firstE_inv hf k hk
    rw [idxAt_at l n k hk, if_pos e] at h
    cases h
  · obtain ⟨k, hk, h2, h3⟩ := firstE_ex hf
    rw [idxAt_at l n k hk] at h2
    by_cases e : l[k] = n
    · rw [if_pos e] at h2
      cases h2
      refine .inr ⟨k, hk, rfl, e, fun j hj hjk e2 => ?_⟩
      have h := h3 j hjk
      rw [idxAt_at l n j hj, if_pos e2] at h
      cases h
    · rw [if_neg e] at h2; cases h2
theorem idxM_neg {l : List Int} {n : Int} : idxM l n < 0 ↔ n ∉ l := by
  rcases idxM_cases l n with ⟨h1, h2⟩ | ⟨k, hk, h1, h2, _⟩
  · exact ⟨fun _ => h2, fun _ => by omega⟩
  · exact ⟨fun h => by omega, fun h => absurd (h2 ▸ List.getElem_mem hk) h⟩
theorem idxM_lt {l : List Int} {i : Nat} (hi : i < l.length) : idxM l l[i] < (i : Int) ↔ l[i] ∈ l.take i := by
  rw [List.mem_take_iff_getElem]
  rcases idxM_cases l l[i] with ⟨h1, h2⟩ | ⟨k, hk, h1, h2, h3⟩
  · exact absurd (List.getElem_mem hi) h2
  · rw [h1]
    constructor
    · intro h
      exact ⟨k, by omega, h2⟩
    · rintro ⟨j, hj, e⟩
      rcases Nat.lt_or_ge j k with h | h
      · exact absurd e (h3 j (by omega) h)
      · omega
theorem idxM_le (l : List Int) (n : Int) : -1 ≤ idxM l n ∧ idxM l n ≤ (l.length : Int) := by
  rcases idxM_cases l n with ⟨h1, _⟩ | ⟨k, hk, h1, _⟩ <;> omega
set_option maxHeartbeats 4000000 in
theorem rindex_any (x : L Int) (n : Int) (w : World) (h : LOk w 1 icell x) :
    Calls Tryz.prog 184 #[.slice x.A x.l.length x.c, .int .i64 n] w fun e w' => e = .returned (.int .i64 (idxM x.l n)) ∧ w = w' := by
  obtain ⟨l, A0, c0⟩ := x
  have HX := Lib.hid h
  have hmx : l.length ≤ 9223372036854775807 := h.1
  have HR := Lib.hid (idxM.eq_1 l n)
  clear h
  simp only at *
  go_enter Tryz.func184, Tryz.ntmps184
  go_wp2
  go_loopw [5] (fun iv wr => ∃ i : Nat, i ≤ l.length ∧ iv = .int .i64 i ∧ (∀ j, j < i → idxAt l n j = none) ∧ w = wr) (fun i _ => l.length - (intOf i).toNat)
  case atStart => exact ⟨0, Nat.zero_le _, rfl, fun j hj => absurd hj (Nat.not_lt_zero _), rfl⟩
  case round =>
  obtain ⟨i, hi, rfl, hpre, rfl⟩ := hrel
  have HPre := Lib.hid hpre
  clear hpre
  by_cases hlt : i < l.length
  · obtain ⟨g, of, hA, d0⟩ := icell_at HX.out hlt
    have HE := Lib.hid (idxAt_at l n i hlt)
    simp only at hA d0
    subst hA
    generalize l[i] = y at *
    by_cases k1 : y = n
    · have HR2 := Lib.hid (HR.out.trans (show _ = (i : Int) by rw [firstE_some hlt HPre.out (HE.out.trans (if_pos k1))]))
      subst k1
      go_wp2
      go_ret
      exact ⟨by rw [HR2.out]; rfl, rfl⟩
    · have HP2 := Lib.hid (firstE_step HPre.out (HE.out.trans (if_neg k1)))
      have k1' : (y == n) = false := beq_eq_false_iff_ne.2 k1
      clear k1
      go_wp2
      go_roundw
      case rel => exact ⟨i + 1, by omega, by go_num, HP2.out, by trivial⟩
      case measure => simp [intOf]; omega
  · have e : i = l.length := by omega
    subst e
    have HR2 := Lib.hid (HR.out.trans (show _ = (-1 : Int) by rw [firstE_none HPre.out]))
    go_wp2
    go_ret
    exact ⟨by rw [HR2.out]; rfl, rfl⟩

set_option maxRecDepth 100000 in
set_option maxHeartbeats 8000000 in
theorem rkeys_any (p : ProgD) (t : TabD) (w : World) (o : ProgOk w p) (ot : TabOk w t) (h6 : t.keys.l.length ≤ 6) :
    Calls Tryz.prog 154 #[.agg (progCells p), .agg (tabCells t)] w fun e w' => e = .returned (.tuple #[.int .i64 (keysM p t.keys.l).1, .int .i64 (keysM p t.keys.l).2]) ∧ Below w.heap.size w w' := by
  obtain ⟨tn, ⟨kl, kA, kc⟩, ta, td, tg, tz⟩ := t
  have HO := Lib.hid o
  have HK := Lib.hid ot.keys
  simp only at h6 HK
  obtain ⟨W, hW, hw, HB, hp⟩ := box2 w (progCells p) 31 (tabCells ⟨tn, ⟨kl, kA, kc⟩, ta, td, tg, tz⟩) 52
  have HW := Lib.hid hw
  have HW0 := Lib.hid HB
  have HR := Lib.hid (keysM.eq_1 p kl)
  have HS := Lib.hid (keyAtM_at p kl)
  have HT := Lib.hid (take_snoc kl)
  clear o ot hw
  go_enter Tryz.func154, Tryz.ntmps154
  go_upto_region 1 with fail
  rw [← hW]
  clear hW
  go_wp2
  clear HB
  go_loopw [6, 7, 8, 9, 10] (fun bv lv iv _ _ wr => ∃ k : Nat, k ≤ kl.length ∧ iv = .int .i64 k ∧ lv = .int .i64 (lpmM (kl.take k)) ∧ bv = .int .i64 (bitsM p (kl.take k)) ∧ (∀ j, j < k → keyAtM p kl j = none) ∧ Below W.heap.size W wr) (fun _ _ i _ _ _ => kl.length - (intOf i).toNat)
  case atStart => exact ⟨0, Nat.zero_le _, rfl, rfl, rfl, fun j h => absurd h (Nat.not_lt_zero _), HW0.out⟩
  case round =>
    obtain ⟨k, hk, rfl, rfl, rfl, hpre, HB⟩ := hrel
    have HPre := Lib.hid hpre
    clear hpre
    have b1 := lpmM_le (kl.take k)
    have b2 := bitsM_le p (kl.take k)
    rw [List.length_take] at b1 b2
    obtain ⟨b11, b12⟩ := b1
    obtain ⟨b21, b22⟩ := b2
    by_cases hlt : k < kl.length
    · obtain ⟨g, of, hA, hq⟩ := KeyD.atA (HK.out.below (below_step HW.out HB) (Nat.le_refl _)) hlt
      have HE := Lib.hid (HS.out k hlt)
      have HL : Hid (lpmM (kl.take (k + 1)) = lpmM (kl.take k) + if kl[k].kind = 2 then 1 else 0) := Lib.hid (by rw [HT.out k hlt, lpmM_snoc])
      have HBt : Hid (bitsM p (kl.take (k + 1)) = bitsM p (kl.take k) + widthAt p kl[k].h kl[k].f) := Lib.hid (by rw [HT.out k hlt, bitsM_snoc])
      simp only at hA hq
      subst hA
      generalize kl[k] = y at *
      obtain ⟨yh, yf, yk⟩ := y
      simp only at HE HL HBt hq
      generalize lpmM (kl.take k) = lm at *
      generalize bitsM p (kl.take k) = bm at *
      have hp2 := fun w' (h : Below wr.heap.size wr w') => hp w' (below_step HB h)
      have HVV := Lib.hid HB
      have H0 := Lib.hid (Below.refl wr.heap.size wr)
      have hp3 := hp wr HB
      have hn1 : (k : Int) < (kl.length : Int) := by omega
      clear HB hp
      go_wp2
      clear hp3
      go_region_held3 (fun w' => Below wr.heap.size wr w') (first | exact H0.out | exact below_drew H0.out | (exact below_step (by assumption) (by assumption)) | assumption)
        (first | (go_at_call 150; refine (rwidth17_any p yh yf _ (HO.out.below (below_step HW.out (below_step HVV.out (by assumption))))).mono ?_; rintro e w1 ⟨rfl, hb1⟩))
      have HB5 : Hid (Below wr.heap.size wr _) := Lib.hid (by assumption)
      have hq3 := hq _ HB5.out
      have hp3 := hp2 _ HB5.out
      have HB := below_step HVV.out HB5.out
      clear hq hp2
      have hwl := widthAt_le p yh yf
      generalize widthAt p yh yf = wd at *
      obtain ⟨wl1, wl2⟩ := hwl
      by_cases k1 : wd = 0
      · subst k1
        have HE2 := Lib.hid (HE.out.trans (if_pos rfl))
        have HR2 := Lib.hid (HR.out.trans (show _ = ((k : Int), (8 : Int)) by rw [firstE_some hlt HPre.out HE2.out]))
        go_wp2
        go_ret2
        exact ⟨ret_pp HR2.out, below_step HW.out HB⟩
      have k1' : (wd == 0) = false := beq_eq_false_iff_ne.2 k1
      have HE2 := Lib.hid (HE.out.trans (if_neg k1))
      clear k1
      have hw1 : IntKind.i64.wrap (bm + wd) = bm + wd := IntWalk.i64_in _ (by omega)
      by_cases e2 : yk = 2
      · subst e2
        have HE3 := Lib.hid (HE2.out.trans (if_neg (by simp)))
        have HL2 : Hid (lpmM (kl.take (k + 1)) = lm + 1) := Lib.hid (by rw [HL.out, if_pos rfl])
        have hw2 : IntKind.i64.wrap (lm + 1) = lm + 1 := IntWalk.i64_in _ (by omega)
        go_wp2
        go_roundw
        case rel => exact ⟨k + 1, by omega, by go_num, by rw [HL2.out], by rw [HBt.out], firstE_step HPre.out HE3.out, HB⟩
        case measure => simp [intOf]; omega
      have HL2 : Hid (lpmM (kl.take (k + 1)) = lm) := Lib.hid (by rw [HL.out, if_neg e2]; omega)
      have e2' : (yk == 2) = false := beq_eq_false_iff_ne.2 e2
      by_cases e1 : yk = 1
      · subst e1
        have HE3 := Lib.hid (HE2.out.trans (if_neg (by simp)))
        clear e2 e2'
        go_wp2
        go_roundw
        case rel => exact ⟨k + 1, by omega, by go_num, by rw [HL2.out], by rw [HBt.out], firstE_step HPre.out HE3.out, HB⟩
        case measure => simp [intOf]; omega
      have e1' : (yk == 1) = false := beq_eq_false_iff_ne.2 e1
      by_cases e3 : yk = 3
      · subst e3
        have HE3 := Lib.hid (HE2.out.trans (if_neg (by simp)))
        clear e2 e2' e1 e1'
        go_wp2
        go_roundw
        case rel => exact ⟨k + 1, by omega, by go_num, by rw [HL2.out], by rw [HBt.out], firstE_step HPre.out HE3.out, HB⟩
        case measure => simp [intOf]; omega
      have e3' : (yk == 3) = false := beq_eq_false_iff_ne.2 e3
      have HE3 := Lib.hid (HE2.out.trans (if_pos (by rintro (h | h | h) <;> contradiction)))
      have HR2 := Lib.hid (HR.out.trans (show _ = ((k : Int), (11 : Int)) by rw [firstE_some hlt HPre.out HE3.out]))
      have b1 : (yk != 1) = true := bne_iff_ne.2 e1
      have b2 : (yk != 2) = true := bne_iff_ne.2 e2
      have b3 : (yk != 3) = true := bne_iff_ne.2 e3
      go_wp2
      go_ret2
      exact ⟨ret_pp HR2.out, below_step HW.out HB⟩
    · have e : k = kl.length := by omega
      have HR2 := Lib.hid (HR.out.trans (show _ = (if 1 < lpmM kl then ((-2 : Int), (7 : Int)) else if 64 < bitsM p kl then (-2, 10) else (0, 0)) by rw [firstE_none (by rw [← e]; exact HPre.out)]))
      rw [show kl.take k = kl by rw [e, List.take_length]] at *
      generalize lpmM kl = lm at *
      generalize bitsM p kl = bm at *
      have hp3 := hp wr HB
      by_cases k1 : 1 < lm
      · replace HR2 := Lib.hid (HR2.out.trans (if_pos k1))
        go_wp2
        go_ret2
        exact ⟨ret_pp HR2.out, below_step HW.out HB⟩
      replace HR2 := Lib.hid (HR2.out.trans (if_neg k1))
      by_cases k2 : 64 < bm
      · replace HR2 := Lib.hid (HR2.out.trans (if_pos k2))
        go_wp2
        go_ret2
        exact ⟨ret_pp HR2.out, below_step HW.out HB⟩
      replace HR2 := Lib.hid (HR2.out.trans (if_neg k2))
      go_wp2
      go_ret2
      exact ⟨ret_pp HR2.out, below_step HW.out HB⟩

set_option maxRecDepth 100000 in
set_option maxHeartbeats 8000000 in
theorem rtacts_any (p : ProgD) (t : TabD) (w : World) (o : ProgOk w p) (ot : TabOk w t) (hwf : ∀ v ∈ t.args.l, (Lit.int .u32 v).wf = true) :
    Calls Tryz.prog 155 #[.agg (progCells p), .agg (tabCells t)] w fun e w' => e = .returned (.int .i64 (tactsM p t)) ∧ Below w.heap.size w w' := by
  obtain ⟨tn, tk, ⟨al, aA, ac⟩, td, ⟨gl, gA, gc⟩, tz⟩ := t
  have HO := Lib.hid o
  have HK := Lib.hid ot.acts
  have HG := Lib.hid ot.args
  have HWF := Lib.hid hwf
  simp only at HK HG HWF
  have hmx : al.length ≤ 9223372036854775807 := HK.out.1
  obtain ⟨W, hW, hw, HB, hp⟩ := box2 w (progCells p) 31 (tabCells ⟨tn, tk, ⟨al, aA, ac⟩, td, ⟨gl, gA, gc⟩, tz⟩) 52
  have HW := Lib.hid hw
  have HW0 := Lib.hid HB
  have HR := Lib.hid (tactsM_eq p ⟨tn, tk, ⟨al, aA, ac⟩, td, ⟨gl, gA, gc⟩, tz⟩)
  have HS := Lib.hid (tactAtM_at p al)
  simp only at HR
  clear o ot hw hwf
  go_enter Tryz.func155, Tryz.ntmps155
  go_upto_region 1 with fail
  rw [← hW]
  clear hW
  go_wp2
  clear HB
  go_loopw [5] (fun iv wr => ∃ k : Nat, k ≤ al.length ∧ iv = .int .i64 k ∧ (∀ j, j < k → tactAtM p al j = none) ∧ Below W.heap.size W wr) (fun i _ => al.length - (intOf i).toNat)
  case atStart => exact ⟨0, Nat.zero_le _, rfl, fun j h => absurd h (Nat.not_lt_zero _), HW0.out⟩
  case round =>
    obtain ⟨k, hk, rfl, hpre, HB⟩ := hrel
    have HPre := Lib.hid hpre
    clear hpre
    have HVV := Lib.hid HB
    have HXr := Lib.hid (HK.out.below (below_step HW.out HB) (Nat.le_refl _))
    by_cases hlt : k < al.length
    · obtain ⟨g, of, hA, hq⟩ := icell_atA HXr.out hlt
      have HE := Lib.hid (HS.out k hlt)
      have HI := Lib.hid (idxM_lt hlt)
      have hq0 := hq wr (Below.refl _ _)
      have hn1 : (k : Int) < (al.length : Int) := by omega
      have hp0 := hp wr HB
      simp only at hA hq0 hq
      subst hA
      have HIx : Hid (∀ n u, Below wr.heap.size wr u → Calls Tryz.prog 184 #[.slice (some ⟨g, of, none⟩) al.length ac, .int .i64 n] u fun e w' => e = .returned (.int .i64 (idxM al n)) ∧ u = w') :=
        Lib.hid (fun n u hb => rindex_any ⟨al, some ⟨g, of, none⟩, ac⟩ n u (HXr.out.below hb (Nat.le_refl _)))
      generalize al[k] = a at *
      have hcase : a < 0 ∨ (0 ≤ a ∧ (p.actions.l.length : Int) ≤ a) ∨ (0 ≤ a ∧ a < (p.actions.l.length : Int)) := by omega
      rcases hcase with h1 | ⟨h1, h2⟩ | ⟨h1, h2⟩
      · have HE2 := Lib.hid (HE.out.trans (if_pos (Or.inl h1)))
        have HR2 := Lib.hid (HR.out.trans (show _ = (8 : Int) by rw [firstE_some hlt HPre.out HE2.out]))
        have b1 : decide (a < 0) = true := decide_eq_true h1
        go_wp2
        go_quiet (fail)
        go_wp2
        go_ret
        exact ⟨by rw [HR2.out]; rfl, below_step HW.out (below_drewN HB _)⟩
      · have HE2 := Lib.hid (HE.out.trans (if_pos (Or.inr h2)))
        have HR2 := Lib.hid (HR.out.trans (show _ = (8 : Int) by rw [firstE_some hlt HPre.out HE2.out]))
        have b1 : decide (a < 0) = false := decide_eq_false (by omega)
        go_wp2
        go_quiet (fail)
        go_wp2
        go_ret
        exact ⟨by rw [HR2.out]; rfl, below_step HW.out (below_drewN HB _)⟩
      · have HE2 := Lib.hid (HE.out.trans (if_neg (show ¬ (a < 0 ∨ (p.actions.l.length : Int) ≤ a) by omega)))
        have b1 : decide (a < 0) = false := decide_eq_false (by omega)
        have hle := idxM_le al a
        have HI2 := Lib.hid (idxM_le al a)
        go_wp2
        go_quiet (fail)
        have HB2 := below_drewN HB nq
        have hp1 := hp _ HB2
        have HW1 := Lib.hid (below_drewN (Below.refl wr.heap.size wr) nq)
        have hq1 := hq _ HW1.out
        generalize World.drewN wr nq = wx at *
        go_wp2
        go_quiet ((go_at_call 184; exact Calls.quiet_of_same (flipC (HIx.out a _ (below_drewN HW1.out _)))))
        generalize idxM al a = ix at *
        by_cases hd : a ∈ al.take k
        · have HE3 := Lib.hid (HE2.out.trans (if_pos hd))
          have HR2 := Lib.hid (HR.out.trans (show _ = (7 : Int) by rw [firstE_some hlt HPre.out HE3.out]))
          have hx := HI.out.2 hd
          clear hd
          go_wp2
          go_ret
          exact ⟨by rw [HR2.out]; rfl, below_step HW.out (below_drewN HB2 _)⟩
        · have HE3 := Lib.hid (HE2.out.trans (if_neg hd))
          have hx : ¬ ix < (k : Int) := fun h => hd (HI.out.1 h)
          clear hd
          go_wp2
          go_roundw
          case rel => exact ⟨k + 1, by omega, by go_num, firstE_step HPre.out HE3.out, below_drewN HB2 _⟩
          case measure => simp [intOf]; omega
    · have e : k = al.length := by omega
      have HR2 := Lib.hid (HR.out.trans (show _ = (if td ∈ al then callM p td gl else 8) by rw [firstE_none (by rw [← e]; exact HPre.out)]))
      have hp0 := hp wr HB
      go_wp2_with fail
      refine (rindex_any ⟨al, aA, ac⟩ td _ HXr.out).mono ?_
      rintro e w' ⟨rfl, rfl⟩
      have HN := Lib.hid (idxM_neg (l := al) (n := td))
      generalize idxM al td = ix at *
      by_cases hd : td ∈ al
      · replace HR2 := Lib.hid (HR2.out.trans (if_pos hd))
        have hx : ¬ ix < 0 := fun h => HN.out.1 h hd
        clear hd
        go_wp2_with fail
        refine (rcheckCall_any p td ⟨gl, gA, gc⟩ _ (HO.out.below (below_step HW.out (by first | exact HB | exact below_alloc HB _ | exact below_alloc (below_alloc HB _) _ | exact below_alloc (below_alloc (below_alloc HB _) _) _))) (HG.out.below (below_step HW.out (by first | exact HB | exact below_alloc HB _ | exact below_alloc (below_alloc HB _) _ | exact below_alloc (below_alloc (below_alloc HB _) _) _)) (Nat.le_refl _)) HWF.out).mono ?_
        rintro e w2 ⟨rfl, hbN⟩
        replace HB := below_step (by first | exact HB | exact below_alloc HB _ | exact below_alloc (below_alloc HB _) _ | exact below_alloc (below_alloc (below_alloc HB _) _) _) hbN
        clear hbN
        go_wp2
        go_ret
        exact ⟨by rw [HR2.out]; rfl, below_step HW.out HB⟩
      · replace HR2 := Lib.hid (HR2.out.trans (if_neg hd))
        have hx : ix < 0 := HN.out.2 hd
        clear hd
        go_wp2
        go_ret
        exact ⟨by rw [HR2.out]; rfl, below_step HW.out HB⟩

set_option maxRecDepth 100000 in
set_option maxHeartbeats 4000000 in
theorem rtableCheck_any (p : ProgD) (i : Nat) (hi : i < p.tables.l.length) (w : World) (o : ProgOk w p) (hc : ∀ t ∈ p.tables.l, ∀ v ∈ t.args.l, (Lit.int .u32 v).wf = true) :
    Calls Tryz.prog 103 #[.agg (progCells p), .int .i64 i] w fun e w' => e = .returned (.tuple #[.int .i64 (tabM p p.tables.l[i]).1, .int .i64 (tabM p p.tables.l[i]).2]) ∧ Below w.heap.size w w' := by
  have HO := Lib.hid o
  obtain ⟨W, hW, hw, HB, hp⟩ := box1 w (progCells p) 31
  have HW := Lib.hid hw
  have HA : Hid (TabOk W p.tables.l[i]) := Lib.hid ((o.tab _ (List.getElem_mem hi)).below hw)
  have HC := Lib.hid (hc _ (List.getElem_mem hi))
  have HR := Lib.hid (tabM.eq_1 p p.tables.l[i])
  obtain ⟨g, of, hA, hq⟩ := TabD.atA (o.tables.below hw (Nat.le_refl _)) hi
  have hn1 : (i : Int) < (p.tables.l.length : Int) := by omega
  clear o hw hc
  generalize p.tables.l[i] = t at *
  obtain ⟨tn, ⟨kl, kA, kc⟩, ⟨al, aA, ac⟩, td, ⟨gl, gA, gc⟩, tz⟩ := t
  simp only at HR hq
  have HAA := Lib.hid hA
  simp only [progCells, hA] at hp hW ⊢
  clear hA
  go_enter Tryz.func103, Tryz.ntmps103
  go_upto_region 1 with fail
  rw [← hW]
  clear hW
  refine Exists.elim (box1 W #[.string tn, .slice kA kl.length kc, .slice aA al.length ac, .int .i64 td, .slice gA gl.length gc, .int .i64 tz] 52) ?_
  rintro U ⟨hU, hu, hUU, hc⟩
  go_wp2_with fail
  rw [← hU]
  clear hU
  have HU := Lib.hid hu
  have hp2 := fun w' h => hp w' (below_step hu h)
  replace HB := hUU
  have HHS : Hid (tn.size ≤ maxLen) := Lib.hid HA.out.name
  clear hp hUU hu
  refine (risIdent_any tn _ HHS.out).mono ?_
  rintro e w' ⟨rfl, rfl⟩
  cases h1 : identM tn.data.toList
  · replace HR := Lib.hid (HR.out.trans (if_pos (show ident tn = false from h1)))
    go_wp2
    go_ret2
    exact ⟨ret_pp HR.out, below_step HW.out (below_step HU.out HB)⟩
  replace HR := Lib.hid (HR.out.trans (if_neg (show ¬ ident tn = false by rw [show ident tn = true from h1]; simp)))
  clear h1
  by_cases h2 : 6 < kl.length ∨ 16 < al.length
  · replace HR := Lib.hid (HR.out.trans (if_pos h2))
    have h2' : 6 < kl.length ∨ (kl.length ≤ 6 ∧ 16 < al.length) := by omega
    rcases h2' with h2 | ⟨h2, h3⟩
    all_goals
      go_wp2
      go_ret2
      exact ⟨ret_pp HR.out, below_step HW.out (below_step HU.out HB)⟩
  replace HR := Lib.hid (HR.out.trans (if_neg h2))
  have h3 : kl.length ≤ 6 := by omega
  have h4 : al.length ≤ 16 := by omega
  clear h2
  by_cases h2 : tz < 1 ∨ 256 < tz
  · replace HR := Lib.hid (HR.out.trans (if_pos h2))
    have h2' : tz < 1 ∨ (1 ≤ tz ∧ 256 < tz) := by omega
    rcases h2' with h2 | ⟨h2, h5⟩
    all_goals
      go_wp2
      go_ret2
      exact ⟨ret_pp HR.out, below_step HW.out (below_step HU.out HB)⟩
  replace HR := Lib.hid (HR.out.trans (if_neg h2))
  have h5 : 1 ≤ tz := by omega
  have h6 : tz ≤ 256 := by omega
  clear h2
  go_wp2_with fail
  have hCN := rkeys_any p ⟨tn, ⟨kl, kA, kc⟩, ⟨al, aA, ac⟩, td, ⟨gl, gA, gc⟩, tz⟩ U (HO.out.below (below_step HW.out (below_step HU.out (by first | exact HB | exact below_alloc HB _ | exact below_alloc (below_alloc HB _) _ | exact below_alloc (below_alloc (below_alloc HB _) _) _)))) (HA.out.below (below_step HU.out (by first | exact HB | exact below_alloc HB _ | exact below_alloc (below_alloc HB _) _ | exact below_alloc (below_alloc (below_alloc HB _) _) _))) h3
  simp only [progCells, HAA.out] at hCN
  refine hCN.mono ?_
  clear hCN
  rintro e w1 ⟨rfl, hbN⟩
  replace HB := below_step (by first | exact HB | exact below_alloc HB _ | exact below_alloc (below_alloc HB _) _ | exact below_alloc (below_alloc (below_alloc HB _) _) _) hbN
  clear hbN
  generalize keysM p kl = r at *
  obtain ⟨ka, kc2⟩ := r
  simp only at HR
  by_cases k1 : kc2 = 0
  case neg =>
    have k1' : (kc2 == 0) = false := beq_eq_false_iff_ne.2 k1
    replace HR := Lib.hid (HR.out.trans (if_pos k1))
    go_wp2
    go_ret2
    exact ⟨ret_pp HR.out, below_step HW.out (below_step HU.out HB)⟩
  subst k1
  replace HR := Lib.hid (HR.out.trans (if_neg (by simp)))
  go_wp2_with fail
  have hCN := rtacts_any p ⟨tn, ⟨kl, kA, kc⟩, ⟨al, aA, ac⟩, td, ⟨gl, gA, gc⟩, tz⟩ w1 (HO.out.below (below_step HW.out (below_step HU.out (by first | exact HB | exact below_alloc HB _ | exact below_alloc (below_alloc HB _) _ | exact below_alloc (below_alloc (below_alloc HB _) _) _)))) (HA.out.below (below_step HU.out (by first | exact HB | exact below_alloc HB _ | exact below_alloc (below_alloc HB _) _ | exact below_alloc (below_alloc (below_alloc HB _) _) _))) HC.out
  simp only [progCells, HAA.out] at hCN
  refine hCN.mono ?_
  clear hCN
  rintro e w2 ⟨rfl, hbN⟩
  replace HB := below_step (by first | exact HB | exact below_alloc HB _ | exact below_alloc (below_alloc HB _) _ | exact below_alloc (below_alloc (below_alloc HB _) _) _) hbN
  clear hbN
  generalize tactsM p ⟨tn, ⟨kl, kA, kc⟩, ⟨al, aA, ac⟩, td, ⟨gl, gA, gc⟩, tz⟩ = tm at *
  by_cases k1 : tm = 0
  · subst k1
    replace HR := Lib.hid (HR.out.trans (if_neg (by simp)))
    go_wp2
    go_ret2
    exact ⟨ret_pp HR.out, below_step HW.out (below_step HU.out HB)⟩
  · have k1' : (tm == 0) = false := beq_eq_false_iff_ne.2 k1
    replace HR := Lib.hid (HR.out.trans (if_pos k1))
    go_wp2
    go_ret2
    exact ⟨ret_pp HR.out, below_step HW.out (below_step HU.out HB)⟩
end Go.Proofs.YtgfbikknkcaneaaGreat
