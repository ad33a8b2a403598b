/- The walk of package program's check of registers, actions and tables on any program, with its errors. No condition but that the program lies in memory, within the limits of its lists. -/
import Derived.Test.YtgfbikknkcaneaaGreatCkZ
import Derived.Test.YtgfbikknkcaneaaGreatCkB
namespace Go.Proofs.YtgfbikknkcaneaaGreat
open Go.RowKit

theorem regAtM_at (l : List RegD) (k : Nat) (h : k < l.length) : regAtM l k = if regM l[k] ≠ 0 then some ⟨regM l[k], 3, k, 0⟩ else if dupB (l.map RegD.name) k = true then some ⟨7, 3, k, 0⟩ else none := by
  rw [regAtM, List.getElem?_eq_getElem h]
theorem actAtM_at (p : ProgD) (k : Nat) (h : k < p.actions.l.length) : actAtM p k = if (actM p p.actions.l[k]).2 ≠ 0 then some ⟨(actM p p.actions.l[k]).2, 4, k, (actM p p.actions.l[k]).1⟩ else if dupB (p.actions.l.map ActD.name) k = true then some ⟨7, 4, k, 0⟩ else none := by
  rw [actAtM, List.getElem?_eq_getElem h]
theorem tabAtM_at (p : ProgD) (k : Nat) (h : k < p.tables.l.length) : tabAtM p k = if (tabM p p.tables.l[k]).2 ≠ 0 then some ⟨(tabM p p.tables.l[k]).2, 5, k, (tabM p p.tables.l[k]).1⟩ else if dupB (p.tables.l.map TabD.name) k = true then some ⟨7, 5, k, 0⟩ else none := by
  rw [tabAtM, List.getElem?_eq_getElem h]
/-- the checks of registers, actions, tables in their order -/
def objsM (p : ProgD) : Option DiagD := orE (regsM p) (orE (actsM p) (tabsM p))
theorem objs1 {p : ProgD} {d : DiagD} (h : regsM p = some d) : objsM p = some d := by rw [objsM, h]; rfl
theorem objs2 {p : ProgD} (h : regsM p = none) : objsM p = orE (actsM p) (tabsM p) := by rw [objsM, h]; rfl
theorem or1 {α : Type} {a b : Option α} {d : α} (h : a = some d) : orE a b = some d := by rw [h]; rfl
theorem or2 {α : Type} {a b : Option α} (h : a = none) : orE a b = b := by rw [h]; rfl

set_option maxRecDepth 100000 in
set_option maxHeartbeats 8000000 in
theorem checkObjects_any (p : ProgD) (w : World) (o : ProgOk w p) (hr : p.registers.l.length ≤ 100) (ha : p.actions.l.length ≤ 100) (ht : p.tables.l.length ≤ 100)
    (hc1 : ∀ a ∈ p.actions.l, a.params.l.length ≤ a.params.c) (hc2 : ∀ t ∈ p.tables.l, (Lit.int .i64 t.defA).wf = true) :
    Calls Tryz.prog 54 #[.agg (progCells p)] w fun e w' => e = outE (objsM p) ∧ Below w.heap.size w w' := by
  obtain ⟨W, hW, hw, HB, hp⟩ := box1 w (progCells p) 31
  have HW := Lib.hid hw
  have HOW := Lib.hid (o.below hw)
  have HRr := Lib.hid (regsM.eq_1 p)
  have HRa := Lib.hid (actsM.eq_1 p)
  have HRt := Lib.hid (tabsM.eq_1 p)
  have HSr := Lib.hid (regAtM_at p.registers.l)
  have HSa := Lib.hid (actAtM_at p)
  have HSt := Lib.hid (tabAtM_at p)
  have HL := Lib.hid (And.intro hr (And.intro ha ht))
  have HLK := Lib.hid HOW.out.registers
  have HNr := Lib.hid (fun w' (h : Below W.heap.size W w') => names_register p.registers w' (HOW.out.registers.below h (Nat.le_refl _)) hr)
  have HNa := Lib.hid (fun w' (h : Below W.heap.size W w') => names_action p.actions w' (HOW.out.actions.below h (Nat.le_refl _)) ha)
  have HNt := Lib.hid (fun w' (h : Below W.heap.size W w') => names_table p.tables w' (HOW.out.tables.below h (Nat.le_refl _)) ht)
  have HCa := Lib.hid (fun k hk w' (h : Below W.heap.size W w') => actionCheck_any p k hk w' (HOW.out.below h) hc1)
  have HCt := Lib.hid (fun k hk w' (h : Below W.heap.size W w') => tableCheck_any p k hk w' (HOW.out.below h) hc2)
  have HRN : Hid (∀ r ∈ p.registers.l, r.name.size ≤ maxLen) := Lib.hid HOW.out.rnames
  clear o hw hc1 hc2
  obtain ⟨⟨rl, rA, rc⟩, hreg⟩ : ∃ x, p.registers = x := ⟨_, rfl⟩
  simp only [progCells, hreg] at hp hW ⊢
  rw [hreg] at hr HLK HSr HRN
  have HREG := Lib.hid hreg
  simp only at hr HSr HRN
  clear hreg
  go_enter Tryz.func54, Tryz.ntmps54
  go_upto_region 1 with fail
  rw [← hW]
  clear hW
  go_wp2_with fail
  have hn := HNr.out W HB
  rw [HREG.out] at hn
  refine hn.mono ?_
  clear hn
  rintro e w1 ⟨A, c, rfl, hown, hb1⟩
  have HOwn := Lib.hid hown
  replace HB := below_step HB hb1
  have HB1 := Lib.hid HB
  clear hb1 hown
  simp only
  go_wp2
  clear HB
  go_loopw [3, 4, 17] (fun _ _ iv wr => ∃ k : Nat, k ≤ rl.length ∧ iv = .int .i64 k ∧ (∀ j, j < k → regAtM rl j = none) ∧ Below w1.heap.size w1 wr) (fun _ _ i _ => rl.length - (intOf i).toNat)
  case atStart => exact ⟨0, Nat.zero_le _, rfl, fun j h => absurd h (Nat.not_lt_zero _), Below.refl _ _⟩
  case round =>
    obtain ⟨k, hk, rfl, hpre, HB⟩ := hrel
    have HPre := Lib.hid hpre
    clear hpre
    by_cases hlt : k < rl.length
    · obtain ⟨g, of, hA, d0, d1, d2⟩ := RegD.at (HLK.out.below (below_step HB1.out HB) (Nat.le_refl _)) hlt
      have HE := Lib.hid (HSr.out k hlt)
      have HNk := Lib.hid (HRN.out _ (List.getElem_mem hlt))
      simp only at hA d0 d1 d2
      subst hA
      generalize rl[k] = y at *
      obtain ⟨yn, yw, ys⟩ := y
      simp only at HE HNk d0 d1 d2
      obtain ⟨gn, rfl, hg⟩ := OwnStrs.form HOwn.out (show 0 < (rl.map RegD.name).length by rw [List.length_map]; omega)
      have HG := Lib.hid hg
      clear hg
      have hca := @World.cell?_alloc_some
      go_wp2_with fail
      refine (registerCheck_any ⟨yn, yw, ys⟩ _ HNk.out).mono ?_
      rintro e w2 ⟨rfl, hbN⟩
      replace HB := below_step (by first | exact HB | exact below_alloc HB _ | exact below_alloc (below_alloc HB _) _ | exact below_alloc (below_alloc (below_alloc HB _) _) _) hbN
      clear hbN
      clear d0 d1 d2 hca
      generalize regM ⟨yn, yw, ys⟩ = rc at *
      by_cases k1 : rc = 0
      case neg =>
        have HE2 := Lib.hid (HE.out.trans (if_pos k1))
        have HR2 := Lib.hid (objs1 (HRr.out.trans (show _ = some (⟨rc, 3, k, 0⟩ : DiagD) by rw [HREG.out]; exact firstE_some hlt HPre.out HE2.out)))
        go_wp2_with fail
        refine (require_bad rc 3 k 0 _ (beq_eq_false_iff_ne.2 k1)).mono ?_
        rintro e w' ⟨rfl, rfl⟩
        go_wp2
        exact ⟨rfl, by rw [HR2.out]; rfl, below_step HW.out (below_step HB1.out HB)⟩
      subst k1
      have HE2 := Lib.hid (HE.out.trans (if_neg (by simp)))
      go_wp2_with fail
      refine (require_ok _ _ _ _).mono ?_
      rintro e w' ⟨rfl, rfl⟩
      go_wp2_with fail
      refine (rep_at (rl.map RegD.name) rl.length gn c k w1 _ (by simp) hlt (by omega) HG.out HB).mono ?_
      rintro e w3 ⟨rfl, hbN⟩
      replace HB := below_step (by first | exact HB | exact below_alloc HB _ | exact below_alloc (below_alloc HB _) _ | exact below_alloc (below_alloc (below_alloc HB _) _) _) hbN
      clear hbN
      cases hd : dupB (rl.map RegD.name) k
      case true =>
        have HE4 := Lib.hid (HE2.out.trans (if_pos hd))
        have HR2 := Lib.hid (objs1 (HRr.out.trans (show _ = some (⟨7, 3, k, 0⟩ : DiagD) by rw [HREG.out]; exact firstE_some hlt HPre.out HE4.out)))
        go_wp2_with fail
        refine (when_true _ _ _ rfl).mono ?_
        rintro e w' ⟨rfl, rfl⟩
        go_wp2_with fail
        refine (require_bad 7 3 k 0 _ rfl).mono ?_
        rintro e w' ⟨rfl, rfl⟩
        go_wp2
        exact ⟨rfl, by rw [HR2.out]; rfl, below_step HW.out (below_step HB1.out HB)⟩
      have HE4 := Lib.hid (HE2.out.trans (if_neg (by rw [hd]; simp)))
      go_wp2_with fail
      refine (when_false _ _ _ rfl).mono ?_
      rintro e w' ⟨rfl, rfl⟩
      go_wp2_with fail
      refine (require_ok _ _ _ _).mono ?_
      rintro e w' ⟨rfl, rfl⟩
      go_wp2
      go_roundw
      case rel => exact ⟨k + 1, by omega, by go_num, firstE_step HPre.out HE4.out, HB⟩
      case measure => simp [intOf]; omega
    have e : k = rl.length := by omega
    have HR2 := Lib.hid (objs2 (HRr.out.trans (show _ = (none : Option DiagD) by rw [HREG.out]; exact firstE_none (by rw [← e]; exact HPre.out))))
    have hkx : ¬ ((k : Int) < (rl.length : Int)) := by omega
    replace HB := below_step HB1.out HB
    clear HPre HB1 HOwn hlt e
    go_wp2_with fail
    refine (HNa.out _ HB).mono ?_
    rintro e w4 ⟨A2, c2, rfl, hown, hb1⟩
    have HOwn := Lib.hid hown
    replace HB := below_step HB hb1
    have HB4 := Lib.hid HB
    clear hb1 hown
    go_wp2
    have HBb := HB4
    clear HB4
    clear HB
    go_loopw [5, 6, 7, 39] (fun _ _ _ iv wr => ∃ k : Nat, k ≤ p.actions.l.length ∧ iv = .int .i64 k ∧ (∀ j, j < k → actAtM p j = none) ∧ Below w4.heap.size w4 wr) (fun _ _ _ i _ => p.actions.l.length - (intOf i).toNat)
    case atStart => exact ⟨0, Nat.zero_le _, rfl, fun j h => absurd h (Nat.not_lt_zero _), Below.refl _ _⟩
    case round =>
      obtain ⟨k, hk, rfl, hpre, HB⟩ := hrel
      have HPre := Lib.hid hpre
      clear hpre
      by_cases hlt : k < p.actions.l.length
      · have HE := Lib.hid (HSa.out k hlt)
        obtain ⟨gn, rfl, hg⟩ := OwnStrs.form HOwn.out (show 0 < (p.actions.l.map ActD.name).length by rw [List.length_map]; omega)
        have HG := Lib.hid hg
        clear hg
        have hp1 := hp wr (below_step HBb.out HB)
        go_wp2_with fail
        clear hp1
        have hCN := HCa.out k hlt wr (below_step HBb.out HB)
        simp only [progCells, HREG.out] at hCN
        refine hCN.mono ?_
        clear hCN
        rintro e w5 ⟨rfl, hbN⟩
        replace HB := below_step HB hbN
        clear hbN
        generalize actM p p.actions.l[k] = r at *
        obtain ⟨ra, rcd⟩ := r
        simp only at HE
        by_cases k1 : rcd = 0
        case neg =>
          have HE2 := Lib.hid (HE.out.trans (if_pos k1))
          have HR3 := Lib.hid (HR2.out.trans (or1 (HRa.out.trans (firstE_some hlt HPre.out HE2.out))))
          go_wp2_with fail
          refine (require_bad rcd 4 k ra _ (beq_eq_false_iff_ne.2 k1)).mono ?_
          rintro e w' ⟨rfl, rfl⟩
          go_wp2
          exact ⟨rfl, by rw [HR3.out]; rfl, below_step HW.out (below_step HBb.out HB)⟩
        subst k1
        have HE2 := Lib.hid (HE.out.trans (if_neg (by simp)))
        go_wp2_with fail
        refine (require_ok _ _ _ _).mono ?_
        rintro e w' ⟨rfl, rfl⟩
        go_wp2_with fail
        refine (rep_at (p.actions.l.map ActD.name) p.actions.l.length gn c2 k w4 _ (by simp) hlt (by have := HL.out; omega) HG.out HB).mono ?_
        rintro e w6 ⟨rfl, hbN⟩
        replace HB := below_step (by first | exact HB | exact below_alloc HB _ | exact below_alloc (below_alloc HB _) _ | exact below_alloc (below_alloc (below_alloc HB _) _) _) hbN
        clear hbN
        cases hd : dupB (p.actions.l.map ActD.name) k
        case true =>
          have HE4 := Lib.hid (HE2.out.trans (if_pos hd))
          have HR3 := Lib.hid (HR2.out.trans (or1 (HRa.out.trans (firstE_some hlt HPre.out HE4.out))))
          go_wp2_with fail
          refine (when_true _ _ _ rfl).mono ?_
          rintro e w' ⟨rfl, rfl⟩
          go_wp2_with fail
          refine (require_bad 7 4 k 0 _ rfl).mono ?_
          rintro e w' ⟨rfl, rfl⟩
          go_wp2
          exact ⟨rfl, by rw [HR3.out]; rfl, below_step HW.out (below_step HBb.out HB)⟩
        have HE4 := Lib.hid (HE2.out.trans (if_neg (by rw [hd]; simp)))
        go_wp2_with fail
        refine (when_false _ _ _ rfl).mono ?_
        rintro e w' ⟨rfl, rfl⟩
        go_wp2_with fail
        refine (require_ok _ _ _ _).mono ?_
        rintro e w' ⟨rfl, rfl⟩
        go_wp2
        go_roundw
        case rel => exact ⟨k + 1, by omega, by go_num, firstE_step HPre.out HE4.out, HB⟩
        case measure => simp [intOf]; omega
      have e : k = p.actions.l.length := by omega
      have HR3 := Lib.hid (HR2.out.trans (or2 (HRa.out.trans (firstE_none (by rw [← e]; exact HPre.out)))))
      have hkx : ¬ ((k : Int) < (p.actions.l.length : Int)) := by omega
      replace HB := below_step HBb.out HB
      clear HPre HBb HOwn hlt e HR2
      have HR2 := HR3
      clear HR3
      go_wp2_with fail
      refine (HNt.out _ HB).mono ?_
      rintro e w7 ⟨A2, c2, rfl, hown, hb1⟩
      have HOwn := Lib.hid hown
      replace HB := below_step HB hb1
      have HBb := Lib.hid HB
      clear hb1 hown
      go_wp2
      clear HB
      go_loopw [8, 9, 10, 65] (fun _ _ _ iv wr => ∃ k : Nat, k ≤ p.tables.l.length ∧ iv = .int .i64 k ∧ (∀ j, j < k → tabAtM p j = none) ∧ Below w7.heap.size w7 wr) (fun _ _ _ i _ => p.tables.l.length - (intOf i).toNat)
      case atStart => exact ⟨0, Nat.zero_le _, rfl, fun j h => absurd h (Nat.not_lt_zero _), Below.refl _ _⟩
      case round =>
        obtain ⟨k, hk, rfl, hpre, HB⟩ := hrel
        have HPre := Lib.hid hpre
        clear hpre
        by_cases hlt : k < p.tables.l.length
        · have HE := Lib.hid (HSt.out k hlt)
          obtain ⟨gn, rfl, hg⟩ := OwnStrs.form HOwn.out (show 0 < (p.tables.l.map TabD.name).length by rw [List.length_map]; omega)
          have HG := Lib.hid hg
          clear hg
          have hp1 := hp wr (below_step HBb.out HB)
          go_wp2_with fail
          clear hp1
          have hCN := HCt.out k hlt wr (below_step HBb.out HB)
          simp only [progCells, HREG.out] at hCN
          refine hCN.mono ?_
          clear hCN
          rintro e w5 ⟨rfl, hbN⟩
          replace HB := below_step HB hbN
          clear hbN
          generalize tabM p p.tables.l[k] = r at *
          obtain ⟨ra, rcd⟩ := r
          simp only at HE
          by_cases k1 : rcd = 0
          case neg =>
            have HE2 := Lib.hid (HE.out.trans (if_pos k1))
            have HR3 := Lib.hid (HR2.out.trans (HRt.out.trans (firstE_some hlt HPre.out HE2.out)))
            go_wp2_with fail
            refine (require_bad rcd 5 k ra _ (beq_eq_false_iff_ne.2 k1)).mono ?_
            rintro e w' ⟨rfl, rfl⟩
            go_wp2
            exact ⟨rfl, by rw [HR3.out]; rfl, below_step HW.out (below_step HBb.out HB)⟩
          subst k1
          have HE2 := Lib.hid (HE.out.trans (if_neg (by simp)))
          go_wp2_with fail
          refine (require_ok _ _ _ _).mono ?_
          rintro e w' ⟨rfl, rfl⟩
          go_wp2_with fail
          refine (rep_at (p.tables.l.map TabD.name) p.tables.l.length gn c2 k w7 _ (by simp) hlt (by have := HL.out; omega) HG.out HB).mono ?_
          rintro e w6 ⟨rfl, hbN⟩
          replace HB := below_step (by first | exact HB | exact below_alloc HB _ | exact below_alloc (below_alloc HB _) _ | exact below_alloc (below_alloc (below_alloc HB _) _) _) hbN
          clear hbN
          cases hd : dupB (p.tables.l.map TabD.name) k
          case true =>
            have HE4 := Lib.hid (HE2.out.trans (if_pos hd))
            have HR3 := Lib.hid (HR2.out.trans (HRt.out.trans (firstE_some hlt HPre.out HE4.out)))
            go_wp2_with fail
            refine (when_true _ _ _ rfl).mono ?_
            rintro e w' ⟨rfl, rfl⟩
            go_wp2_with fail
            refine (require_bad 7 5 k 0 _ rfl).mono ?_
            rintro e w' ⟨rfl, rfl⟩
            go_wp2
            exact ⟨rfl, by rw [HR3.out]; rfl, below_step HW.out (below_step HBb.out HB)⟩
          have HE4 := Lib.hid (HE2.out.trans (if_neg (by rw [hd]; simp)))
          go_wp2_with fail
          refine (when_false _ _ _ rfl).mono ?_
          rintro e w' ⟨rfl, rfl⟩
          go_wp2_with fail
          refine (require_ok _ _ _ _).mono ?_
          rintro e w' ⟨rfl, rfl⟩
          go_wp2
          go_roundw
          case rel => exact ⟨k + 1, by omega, by go_num, firstE_step HPre.out HE4.out, HB⟩
          case measure => simp [intOf]; omega
        have e : k = p.tables.l.length := by omega
        have HR3 := Lib.hid (HR2.out.trans (HRt.out.trans (firstE_none (by rw [← e]; exact HPre.out))))
        go_wp2
        go_end0
        exact ⟨by rw [HR3.out]; rfl, below_step HW.out (below_step HBb.out HB)⟩
end Go.Proofs.YtgfbikknkcaneaaGreat

