/- The walks of package action's Check and CheckCall on any program. No condition but that the program lies in memory. -/
import Derived.Test.YtbfjknidinkafaaGreatCkJ
namespace Go.Proofs.YtbfjknidinkafaaGreat
open Go.RowKit

/-- the statement at k passes or not -/
def stAtM (p : ProgD) (a : ActD) (k : Nat) : Option (Int × Int) := match a.body.l[k]? with
  | none => none
  | some s => if stmtM p a.params.l s ≠ 0 then some ((k : Int), stmtM p a.params.l s) else none
theorem actM_eq (p : ProgD) (a : ActD) : actM p a = if declarM a ≠ 0 then (-1, declarM a) else match firstE a.body.l.length (stAtM p a) with
    | some r => r
    | none => (0, 0) := rfl
theorem stAtM_at (p : ProgD) (a : ActD) (k : Nat) (h : k < a.body.l.length) : stAtM p a k = if stmtM p a.params.l a.body.l[k] ≠ 0 then some ((k : Int), stmtM p a.params.l a.body.l[k]) else none := by
  rw [stAtM, List.getElem?_eq_getElem h]

set_option maxRecDepth 100000 in
set_option maxHeartbeats 4000000 in
theorem actionCheck_any (p : ProgD) (i : Nat) (hi : i < p.actions.l.length) (w : World) (o : ProgOk w p) (hc : ∀ a ∈ p.actions.l, a.params.l.length ≤ a.params.c) :
    Calls Tryz.prog 131 #[.agg (progCells p), .int .i64 i] w fun e w' => e = .returned (.tuple #[.int .i64 (actM p p.actions.l[i]).1, .int .i64 (actM p p.actions.l[i]).2]) ∧ Below w.heap.size w w' := by
  have HO := Lib.hid o
  obtain ⟨W, hW, hw, HB, hp⟩ := box1 w (progCells p) 31
  have HW := Lib.hid hw
  have HA : Hid (ActOk W p.actions.l[i]) := Lib.hid ((o.act _ (List.getElem_mem hi)).below hw)
  have HC := Lib.hid (hc _ (List.getElem_mem hi))
  have HR := Lib.hid (actM_eq p p.actions.l[i])
  have HS := Lib.hid (stAtM_at p p.actions.l[i])
  obtain ⟨g, of, hA, hq⟩ := ActD.atA (o.actions.below hw (Nat.le_refl _)) hi
  have hn1 : (i : Int) < (p.actions.l.length : Int) := by omega
  clear o hw hc
  generalize p.actions.l[i] = a at *
  obtain ⟨an, ⟨pl, pA, pc⟩, ⟨bl, bA, bc⟩⟩ := a
  simp only at HR HS hq
  have HAA := Lib.hid hA
  simp only [progCells, hA] at hp hW ⊢
  clear hA
  go_enter Tryz.func131, Tryz.ntmps131
  go_upto_region 1 with fail
  rw [← hW]
  clear hW
  refine Exists.elim (box1 W #[.string an, .slice pA pl.length pc, .slice bA bl.length bc] 124) ?_
  rintro U ⟨hU, hu, hUU, hc⟩
  go_wp2_with fail
  rw [← hU]
  clear hU
  have HWU := Lib.hid (below_step HW.out hu)
  have HU := Lib.hid hu
  have hp2 := fun w' h => hp w' (below_step hu h)
  replace HB := hUU
  clear hp hUU hu
  refine (declaration_any ⟨an, ⟨pl, pA, pc⟩, ⟨bl, bA, bc⟩⟩ _ (HA.out.below (below_step HU.out (by first | exact HB | exact below_alloc HB _ | exact below_alloc (below_alloc HB _) _ | exact below_alloc (below_alloc (below_alloc HB _) _) _))) HC.out).mono ?_
  rintro e w1 ⟨rfl, hbN⟩
  replace HB := below_step (by first | exact HB | exact below_alloc HB _ | exact below_alloc (below_alloc HB _) _ | exact below_alloc (below_alloc (below_alloc HB _) _) _) hbN
  clear hbN
  generalize hdm : declarM ⟨an, ⟨pl, pA, pc⟩, ⟨bl, bA, bc⟩⟩ = dm at *
  by_cases k1 : dm = 0
  case neg =>
    have k1' : (dm == 0) = false := beq_eq_false_iff_ne.2 k1
    replace HR := Lib.hid (HR.out.trans (if_pos k1))
    go_wp2
    go_ret2
    exact ⟨ret_pp HR.out, below_step HWU.out HB⟩
  subst k1
  replace HR := Lib.hid (HR.out.trans (if_neg (by simp)))
  refine Exists.elim (box1 w1 #[.string p.name, .slice p.headers.A p.headers.l.length p.headers.c, .slice p.metadata.A p.metadata.l.length p.metadata.c,
      .slice p.registers.A p.registers.l.length p.registers.c, .slice (some ⟨g, of, none⟩) p.actions.l.length p.actions.c, .slice p.tables.A p.tables.l.length p.tables.c,
      .slice p.states.A p.states.l.length p.states.c, .slice p.control.A p.control.l.length p.control.c, .slice p.deparser.A p.deparser.l.length p.deparser.c, .slice pA pl.length pc] 219) ?_
  rintro V ⟨hV, hv, hVV, hk⟩
  have hca := @World.cell?_alloc_some
  go_wp2
  rw [← hV]
  clear hV
  have HWV := Lib.hid (below_step HB hv)
  have hm := HA.out.body.1
  unfold maxLen at hm
  simp only at hm
  have HVV := Lib.hid hVV
  clear HB hVV hv hp2 hc hq
  go_loopw [5, 8, 9, 37] (fun _ _ _ iv wr => ∃ k : Nat, k ≤ bl.length ∧ iv = .int .i64 k ∧ (∀ j, j < k → stAtM p ⟨an, ⟨pl, pA, pc⟩, ⟨bl, bA, bc⟩⟩ j = none) ∧ Below V.heap.size V wr) (fun _ _ _ i _ => bl.length - (intOf i).toNat)
  case atStart => exact ⟨0, Nat.zero_le _, rfl, fun j h => absurd h (Nat.not_lt_zero _), HVV.out⟩
  case round =>
    obtain ⟨k, hk2, rfl, hpre, HB⟩ := hrel
    have HPre := Lib.hid hpre
    clear hpre
    have HX := fun w' (h : Below V.heap.size V w') => below_step HU.out (below_step HWV.out h)
    have HAct := HA.out.below (HX wr HB)
    by_cases hlt : k < bl.length
    · obtain ⟨g2, of2, hB, d0, d1, d2, d3, d4, d5, d6⟩ := StmtD.at HAct.body hlt
      have HSO := HAct.stmts _ (List.getElem_mem hlt)
      have HS2 := HS.out k hlt
      simp only at hB HSO HS2 d0 d1 d2 d3 d4 d5 d6
      subst hB
      have HSt := Lib.hid HSO
      have HS3 := Lib.hid HS2
      clear HAct HSO HS2
      generalize bl[k] = s at *
      obtain ⟨kind, dh, df, rg, hd, ⟨il, iA, ic⟩, ⟨vl, vA, vc⟩⟩ := s
      simp only [L.v] at d0 d1 d2 d3 d4 d5 d6
      have hkv := hk wr HB
      go_wp2_with fail
      have HY := HX _ (below_alloc HB (.cells (stmtCells ⟨kind, dh, df, rg, hd, ⟨il, iA, ic⟩, ⟨vl, vA, vc⟩⟩) 167))
      have hCN := statement_any p ⟨pl, pA, pc⟩ ⟨kind, dh, df, rg, hd, ⟨il, iA, ic⟩, ⟨vl, vA, vc⟩⟩ (wr.alloc (.cells (stmtCells ⟨kind, dh, df, rg, hd, ⟨il, iA, ic⟩, ⟨vl, vA, vc⟩⟩) 167)) (HO.out.below (below_step HW.out HY)) ((HA.out.below HY).params) (HSt.out.below (below1 _ _))
      simp only [scopeCells, HAA.out] at hCN
      refine hCN.mono ?_
      clear hCN HY
      rintro e w3 ⟨rfl, hbN⟩
      replace HB := below_step (by first | exact HB | exact below_alloc HB _ | exact below_alloc (below_alloc HB _) _ | exact below_alloc (below_alloc (below_alloc HB _) _) _) hbN
      clear hbN
      generalize hst : stmtM p pl ⟨kind, dh, df, rg, hd, ⟨il, iA, ic⟩, ⟨vl, vA, vc⟩⟩ = sm at *
      by_cases k1 : sm = 0
      · subst k1
        have HE := Lib.hid (HS3.out.trans (if_neg (by simp)))
        go_wp2
        go_roundw
        case rel => exact ⟨k + 1, by omega, by go_num, firstE_step HPre.out HE.out, HB⟩
        case measure => simp [intOf]; omega
      · have k1' : (sm == 0) = false := beq_eq_false_iff_ne.2 k1
        have HE := Lib.hid (HS3.out.trans (if_pos k1))
        have HR2 := Lib.hid (HR.out.trans (show _ = ((k : Int), sm) by rw [firstE_some hlt HPre.out HE.out]))
        go_wp2
        go_ret2
        exact ⟨ret_pp HR2.out, below_step HWU.out (below_step HWV.out HB)⟩
    · have e : k = bl.length := by omega
      have HR2 : Hid (actM p ⟨an, ⟨pl, pA, pc⟩, ⟨bl, bA, bc⟩⟩ = (0, 0)) := Lib.hid (by rw [HR.out, firstE_none (by rw [← e]; exact HPre.out)])
      go_wp2
      go_ret2
      exact ⟨ret_pp HR2.out, below_step HWU.out (below_step HWV.out HB)⟩

/-- argument i of a call passes or not -/
def cAtM (ps : List FieldD) (args : List Int) (i : Nat) : Option Int := match args[i]?, ps[i]? with
  | some v, some f => if fitsM v f.width = false then some (9 : Int) else none
  | _, _ => none
theorem callM_eq (p : ProgD) (a : Int) (args : List Int) : callM p a args = if a < 0 then 8 else match p.actions.l[a.toNat]? with
  | none => 8
  | some x => if args.length ≠ x.params.l.length then 2 else match firstE args.length (cAtM x.params.l args) with
    | some e => e
    | none => 0 := rfl
theorem cAtM_at (ps : List FieldD) (args : List Int) (k : Nat) (h : k < args.length) (h2 : k < ps.length) : cAtM ps args k = if fitsM args[k] ps[k].width = false then some 9 else none := by
  rw [cAtM, List.getElem?_eq_getElem h, List.getElem?_eq_getElem h2]

set_option maxRecDepth 100000 in
set_option maxHeartbeats 4000000 in
theorem checkCall_any (p : ProgD) (ai : Int) (x : L Int) (w : World) (o : ProgOk w p) (hx : LOk w 1 ucell x) :
    Calls Tryz.prog 202 #[.agg (progCells p), .agg #[.int .i64 ai, .slice x.A x.l.length x.c]] w fun e w' => e = .returned (.int .i64 (callM p ai x.l)) ∧ Below w.heap.size w w' := by
  obtain ⟨xl, xA, xc⟩ := x
  simp only
  have HR := Lib.hid (callM_eq p ai xl)
  have hcase : ai < 0 ∨ (0 ≤ ai ∧ (p.actions.l.length : Int) ≤ ai) ∨ ∃ k : Nat, ai = k ∧ k < p.actions.l.length := by
    by_cases h : 0 ≤ ai ∧ ai < p.actions.l.length
    · exact .inr (.inr ⟨ai.toNat, by omega, by omega⟩)
    · omega
  rcases hcase with h1 | ⟨h1, h2⟩ | ⟨i, rfl, hi⟩
  · replace HR := Lib.hid (HR.out.trans (if_pos h1))
    clear o hx
    go_enter Tryz.func202, Tryz.ntmps202
    go_wp2
    go_ret
    exact ⟨by rw [HR.out]; rfl, below2 _ _ _⟩
  · replace HR : Hid (callM p ai xl = 8) := Lib.hid (by rw [HR.out, if_neg (by omega), List.getElem?_eq_none (by omega)])
    clear o hx
    go_enter Tryz.func202, Tryz.ntmps202
    go_wp2
    go_ret
    exact ⟨by rw [HR.out]; rfl, below2 _ _ _⟩
  have HO := Lib.hid o
  obtain ⟨W, hW, hw, HB, hp⟩ := box2 w (progCells p) 31 #[.int .i64 (i : Int), .slice xA xl.length xc] 127
  have HW := Lib.hid hw
  have HA : Hid (ActOk W p.actions.l[i]) := Lib.hid ((o.act _ (List.getElem_mem hi)).below hw)
  have HX := Lib.hid (hx.below hw (Nat.le_refl _))
  obtain ⟨g, of, hA, hq⟩ := ActD.atA (o.actions.below hw (Nat.le_refl _)) hi
  have hn1 : (i : Int) < (p.actions.l.length : Int) := by omega
  replace HR := Lib.hid (HR.out.trans ((if_neg (show ¬ (i : Int) < 0 by omega)).trans (by rw [Int.toNat_natCast, List.getElem?_eq_getElem hi])))
  clear o hw hx
  generalize p.actions.l[i] = a at *
  obtain ⟨an, ⟨pl, pA, pc⟩, ⟨bl, bA, bc⟩⟩ := a
  simp only at HR hq
  simp only [progCells, hA] at hp hW ⊢
  clear hA
  by_cases k1 : xl.length = pl.length
  case neg =>
    replace HR := Lib.hid (HR.out.trans (if_pos k1))
    have k1' : ((xl.length : Int) == (pl.length : Int)) = false := beq_eq_false_iff_ne.2 (by omega)
    go_enter Tryz.func202, Tryz.ntmps202
    go_upto_region 1 with fail
    rw [← hW]
    clear hW
    go_wp2
    go_ret
    exact ⟨by rw [HR.out]; rfl, below_step HW.out HB⟩
  replace HR := Lib.hid (HR.out.trans (if_neg (show ¬ xl.length ≠ pl.length from fun h => h k1)))
  have k1' : ((xl.length : Int) == (pl.length : Int)) = true := by rw [k1]; simp
  have K1 := Lib.hid k1
  clear k1
  have hm := HX.out.1
  unfold maxLen at hm
  go_enter Tryz.func202, Tryz.ntmps202
  go_upto_region 1 with fail
  rw [← hW]
  clear hW
  have HW0 := Lib.hid HB
  go_wp2
  clear HB
  go_loopw [6, 7, 35] (fun _ _ iv wr => ∃ k : Nat, k ≤ xl.length ∧ iv = .int .i64 k ∧ (∀ j, j < k → cAtM pl xl j = none) ∧ Below W.heap.size W wr) (fun _ _ i _ => xl.length - (intOf i).toNat)
  case atStart => exact ⟨0, Nat.zero_le _, rfl, fun j h => absurd h (Nat.not_lt_zero _), HW0.out⟩
  case round =>
    obtain ⟨k, hk2, rfl, hpre, HB⟩ := hrel
    have HPre := Lib.hid hpre
    clear hpre
    by_cases hlt : k < xl.length
    · have hlt2 : k < pl.length := by have := K1.out; omega
      obtain ⟨g2, of2, hA2, e0⟩ := ucell_at (HX.out.below HB (Nat.le_refl _)) hlt
      obtain ⟨g3, of3, hA3, f0, f1⟩ := FieldD.at (HA.out.params.below HB (Nat.le_refl _)) hlt2
      have HE := Lib.hid (cAtM_at pl xl k hlt hlt2)
      simp only at hA3 f0 f1
      have hj1 : (k : Int) < (pl.length : Int) := by omega
      simp only at hA2
      subst hA2 hA3
      generalize xl[k] = v at *
      generalize pl[k]'hlt2 = y at *
      obtain ⟨yn, yw⟩ := y
      simp only at HE f0 f1
      go_wp2_with fail
      refine (fits_any v yw _).mono ?_
      rintro e w2 ⟨rfl, hbN⟩
      replace HB := below_step (by first | exact HB | exact below_alloc HB _ | exact below_alloc (below_alloc HB _) _ | exact below_alloc (below_alloc (below_alloc HB _) _) _) hbN
      clear hbN
      cases hf : fitsM v yw
      · replace HE := Lib.hid (HE.out.trans (if_pos hf))
        have HR2 := Lib.hid (HR.out.trans (show _ = (9 : Int) by rw [firstE_some hlt HPre.out HE.out]))
        go_wp2
        go_ret
        exact ⟨by rw [HR2.out]; rfl, below_step HW.out HB⟩
      · replace HE := Lib.hid (HE.out.trans (if_neg (by rw [hf]; simp)))
        go_wp2
        go_roundw
        case rel => exact ⟨k + 1, by omega, by go_num, firstE_step HPre.out HE.out, HB⟩
        case measure => simp [intOf]; omega
    · have e : k = xl.length := by omega
      have HR2 := Lib.hid (HR.out.trans (show _ = (0 : Int) by rw [firstE_none (by rw [← e]; exact HPre.out)]))
      go_wp2
      go_ret
      exact ⟨by rw [HR2.out]; rfl, below_step HW.out HB⟩
end Go.Proofs.YtbfjknidinkafaaGreat

