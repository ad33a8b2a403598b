/- The walk of package control's check of a node on any program. No condition but that the program lies in memory. -/
import Derived.Test.YtbfjknidinkafaaGreatCkT
namespace Go.Proofs.YtbfjknidinkafaaGreat
open Go.RowKit

theorem exprCheck_nil (p : ProgD) (x : L NodeD) (w : World) (o : ProgOk w p) (hx : LOk w 3 NodeD.cells x) :
    Calls Tryz.prog 201 #[.slice x.A x.l.length x.c, .agg (scopeCells p ⟨[], none, 0⟩)] w fun e w' => e = .returned (.tuple #[.int .i64 (exprM p [] x.l).1, .int .i64 (exprM p [] x.l).2]) ∧ Below w.heap.size w w' :=
  exprCheck_any p ⟨[], none, 0⟩ x w o ⟨Nat.zero_le _, .inl rfl⟩ hx
theorem nodeM_eq (p : ProgD) (used : List Int) (x : CtlD) : nodeM p used x = if x.kind = 1 ∨ x.kind = 3 then
    (if x.table < 0 ∨ (p.tables.l.length : Int) ≤ x.table then 8 else if x.table ∈ used then 7 else if x.kind = 1 ∧ 0 < x.th.l.length + x.el.l.length then 5 else 0)
  else if x.kind = 2 then (if (exprM p [] x.cond.l).2 ≠ 0 then (exprM p [] x.cond.l).2 else if (exprM p [] x.cond.l).1 ≠ 1 then 10 else 0)
  else 11 := rfl

set_option maxRecDepth 100000 in
set_option maxHeartbeats 8000000 in
theorem node_apply (p : ProgD) (kd tb : Int) (cd : L NodeD) (tl el : List CtlD) (tA eA : Option Addr) (tc ec : Nat) (ul : List Int) (uA : Option Addr) (uc : Nat) (w : World) (hk : kd = 1 ∨ kd = 3)
    (hu : LOk w 1 icell ⟨ul, uA, uc⟩) (hle : tl.length + el.length ≤ 90000) :
    Calls Tryz.prog 179 #[.agg (progCells p), .agg #[.int .i64 kd, .int .i64 tb, .slice cd.A cd.l.length cd.c, .slice tA tl.length tc, .slice eA el.length ec], .slice uA ul.length uc] w fun e w' => e = .returned (.int .i64 (nodeM p ul (.mk kd tb cd tl el tA eA tc ec))) ∧ Below w.heap.size w w' := by
  obtain ⟨W, hW, hw, HB, hp⟩ := box2 w (progCells p) 31 #[.int .i64 kd, .int .i64 tb, .slice cd.A cd.l.length cd.c, .slice tA tl.length tc, .slice eA el.length ec] 169
  have HW := Lib.hid hw
  have HU := Lib.hid (hu.below hw (Nat.le_refl _))
  have HB0 := Lib.hid HB
  have hlen := hu.1
  unfold maxLen at hlen
  simp only at hlen
  have HR := Lib.hid ((nodeM_eq p ul (.mk kd tb cd tl el tA eA tc ec)).trans (if_pos hk))
  simp only [CtlD.kind, CtlD.table, CtlD.th, CtlD.el] at HR
  clear hu hw
  have hcase : tb < 0 ∨ (0 ≤ tb ∧ (p.tables.l.length : Int) ≤ tb) ∨ (0 ≤ tb ∧ tb < (p.tables.l.length : Int)) := by omega
  rcases hcase with h1 | ⟨h1, h2⟩ | ⟨h1, h2⟩
  case inl =>
    replace HR := Lib.hid (HR.out.trans (if_pos (Or.inl h1)))
    rcases hk with rfl | rfl
    all_goals
      go_enter Tryz.func179, Tryz.ntmps179
      go_upto_region 1 with fail
      rw [← hW]
      clear hW
      go_wp2
      go_ret
      exact ⟨by rw [HR.out]; rfl, below_step HW.out HB⟩
  case inr.inl =>
    replace HR := Lib.hid (HR.out.trans (if_pos (Or.inr h2)))
    rcases hk with rfl | rfl
    all_goals
      go_enter Tryz.func179, Tryz.ntmps179
      go_upto_region 1 with fail
      rw [← hW]
      clear hW
      go_wp2
      go_ret
      exact ⟨by rw [HR.out]; rfl, below_step HW.out HB⟩
  replace HR := Lib.hid (HR.out.trans (if_neg (show ¬ (tb < 0 ∨ (p.tables.l.length : Int) ≤ tb) by omega)))
  by_cases hmem : tb ∈ ul
  · replace HR := Lib.hid (HR.out.trans (if_pos hmem))
    have HMem := Lib.hid hmem
    clear hmem
    rcases hk with rfl | rfl
    all_goals
      go_enter Tryz.func179, Tryz.ntmps179
      go_upto_region 1 with fail
      rw [← hW]
      clear hW
      go_wp2
      clear HB
      go_loopw [8, 29] (fun _ iv wr => ∃ k : Nat, k ≤ ul.length ∧ iv = .int .i64 k ∧ (∀ j (hj : j < ul.length), j < k → ul[j] ≠ tb) ∧ W = wr) (fun _ i _ => ul.length - (intOf i).toNat)
      case atStart => exact ⟨0, Nat.zero_le _, rfl, fun j _ h => absurd h (Nat.not_lt_zero _), rfl⟩
      case round =>
        obtain ⟨k, hk2, rfl, hpre, rfl⟩ := hrel
        have HPre := Lib.hid hpre
        have HB := HB0.out
        clear hpre
        by_cases hlt : k < ul.length
        · obtain ⟨g2, of2, hA, d0⟩ := icell_at HU.out hlt
          have HN : Hid (ul[k] ≠ tb → ∀ j (hj : j < ul.length), j < k + 1 → ul[j] ≠ tb) := Lib.hid (fun hf j hj h => by
            rcases Nat.lt_succ_iff_lt_or_eq.1 h with h1 | rfl
            · exact HPre.out j hj h1
            · exact hf)
          simp only at hA d0
          subst hA
          generalize ul[k] = u at *
          by_cases he : u = tb
          · subst he
            go_wp2
            go_ret
            exact ⟨by rw [HR.out]; rfl, below_step HW.out HB⟩
          · have HN2 := Lib.hid (HN.out he)
            have he' : (u == tb) = false := beq_eq_false_iff_ne.2 he
            go_wp2
            go_roundw
            case rel => exact ⟨k + 1, by omega, by go_num, HN2.out, by trivial⟩
            case measure => simp [intOf]; omega
        · exfalso
          obtain ⟨j, hj, he⟩ := List.mem_iff_getElem.1 HMem.out
          exact HPre.out j hj (by omega) he
  replace HR := Lib.hid (HR.out.trans (if_neg hmem))
  have HMem := Lib.hid hmem
  clear hmem
  have hsum : ¬ ((0 : Int) < (tl.length : Int) + (el.length : Int)) ∨ (0 : Int) < (tl.length : Int) + (el.length : Int) := by omega
  rcases hk with rfl | rfl
  · rcases hsum with hs | hs
    all_goals
      first
        | replace HR := Lib.hid (HR.out.trans (if_neg (show ¬ ((1 : Int) = 1 ∧ 0 < tl.length + el.length) by omega)))
        | replace HR := Lib.hid (HR.out.trans (if_pos (show ((1 : Int) = 1 ∧ 0 < tl.length + el.length) from ⟨rfl, by omega⟩)))
      go_enter Tryz.func179, Tryz.ntmps179
      go_upto_region 1 with fail
      rw [← hW]
      clear hW
      go_wp2
      clear HB
      go_loopw [8, 29] (fun _ iv wr => ∃ k : Nat, k ≤ ul.length ∧ iv = .int .i64 k ∧ W = wr) (fun _ i _ => ul.length - (intOf i).toNat)
      case atStart => exact ⟨0, Nat.zero_le _, rfl, rfl⟩
      case round =>
        obtain ⟨k, hk2, rfl, rfl⟩ := hrel
        have HB := HB0.out
        by_cases hlt : k < ul.length
        · obtain ⟨g2, of2, hA, d0⟩ := icell_at HU.out hlt
          have HNe : Hid (ul[k] ≠ tb) := Lib.hid (fun e => HMem.out (e ▸ List.getElem_mem hlt))
          simp only at hA d0
          subst hA
          generalize ul[k] = u at *
          have he' : (u == tb) = false := beq_eq_false_iff_ne.2 HNe.out
          go_wp2
          go_roundw
          case rel => exact ⟨k + 1, by omega, by go_num, by trivial⟩
          case measure => simp [intOf]; omega
        · go_wp2
          go_ret
          exact ⟨by rw [HR.out]; rfl, below_step HW.out HB⟩
  · replace HR := Lib.hid (HR.out.trans (if_neg (show ¬ ((3 : Int) = 1 ∧ 0 < tl.length + el.length) by omega)))
    go_enter Tryz.func179, Tryz.ntmps179
    go_upto_region 1 with fail
    rw [← hW]
    clear hW
    go_wp2
    clear HB
    go_loopw [8, 29] (fun _ iv wr => ∃ k : Nat, k ≤ ul.length ∧ iv = .int .i64 k ∧ W = wr) (fun _ i _ => ul.length - (intOf i).toNat)
    case atStart => exact ⟨0, Nat.zero_le _, rfl, rfl⟩
    case round =>
      obtain ⟨k, hk2, rfl, rfl⟩ := hrel
      have HB := HB0.out
      by_cases hlt : k < ul.length
      · obtain ⟨g2, of2, hA, d0⟩ := icell_at HU.out hlt
        have HNe : Hid (ul[k] ≠ tb) := Lib.hid (fun e => HMem.out (e ▸ List.getElem_mem hlt))
        simp only at hA d0
        subst hA
        generalize ul[k] = u at *
        have he' : (u == tb) = false := beq_eq_false_iff_ne.2 HNe.out
        go_wp2
        go_roundw
        case rel => exact ⟨k + 1, by omega, by go_num, by trivial⟩
        case measure => simp [intOf]; omega
      · go_wp2
        go_ret
        exact ⟨by rw [HR.out]; rfl, below_step HW.out HB⟩

set_option maxRecDepth 100000 in
set_option maxHeartbeats 4000000 in
theorem node_other (p : ProgD) (kd tb : Int) (cd : L NodeD) (tl el : List CtlD) (tA eA : Option Addr) (tc ec : Nat) (ul : List Int) (uA : Option Addr) (uc : Nat) (w : World) (h1 : ¬ (kd = 1 ∨ kd = 3)) (o : ProgOk w p) (hx : LOk w 3 NodeD.cells cd) :
    Calls Tryz.prog 179 #[.agg (progCells p), .agg #[.int .i64 kd, .int .i64 tb, .slice cd.A cd.l.length cd.c, .slice tA tl.length tc, .slice eA el.length ec], .slice uA ul.length uc] w fun e w' => e = .returned (.int .i64 (nodeM p ul (.mk kd tb cd tl el tA eA tc ec))) ∧ Below w.heap.size w w' := by
  have HO := Lib.hid o
  have HX := Lib.hid hx
  obtain ⟨W, hW, hw, HB, hp⟩ := box2 w (progCells p) 31 #[.int .i64 kd, .int .i64 tb, .slice cd.A cd.l.length cd.c, .slice tA tl.length tc, .slice eA el.length ec] 169
  have HW := Lib.hid hw
  have HR := Lib.hid ((nodeM_eq p ul (.mk kd tb cd tl el tA eA tc ec)).trans (if_neg h1))
  simp only [CtlD.kind, CtlD.cond] at HR
  have k1 : (kd == 1) = false := beq_eq_false_iff_ne.2 (fun e => h1 (.inl e))
  have k3 : (kd == 3) = false := beq_eq_false_iff_ne.2 (fun e => h1 (.inr e))
  clear o hx hw h1
  by_cases h2 : kd = 2
  · subst h2
    replace HR := Lib.hid (HR.out.trans (if_pos rfl))
    go_enter Tryz.func179, Tryz.ntmps179
    go_upto_region 1 with fail
    rw [← hW]
    clear hW
    go_wp2_with fail
    refine (exprCheck_nil p cd _ (HO.out.below (below_step HW.out (by first | exact HB | exact below_alloc HB _ | exact below_alloc (below_alloc HB _) _ | exact below_alloc (below_alloc (below_alloc HB _) _) _))) (HX.out.below (below_step HW.out (by first | exact HB | exact below_alloc HB _ | exact below_alloc (below_alloc HB _) _ | exact below_alloc (below_alloc (below_alloc HB _) _) _)) (Nat.le_refl _))).mono ?_
    rintro e w1 ⟨rfl, hbN⟩
    replace HB := below_step (by first | exact HB | exact below_alloc HB _ | exact below_alloc (below_alloc HB _) _ | exact below_alloc (below_alloc (below_alloc HB _) _) _) hbN
    clear hbN
    by_cases k5 : (exprM p [] cd.l).2 = 0
    · replace HR := Lib.hid (HR.out.trans (if_neg (fun h => h k5)))
      have k5' : ((exprM p [] cd.l).2 == 0) = true := beq_iff_eq.2 k5
      clear k5
      by_cases k6 : (exprM p [] cd.l).1 = 1
      · replace HR := Lib.hid (HR.out.trans (if_neg (fun h => h k6)))
        have k6' : ((exprM p [] cd.l).1 == 1) = true := beq_iff_eq.2 k6
        clear k6
        go_wp2
        go_ret
        exact ⟨by rw [HR.out]; rfl, below_step HW.out HB⟩
      · have k6' : ((exprM p [] cd.l).1 == 1) = false := beq_eq_false_iff_ne.2 k6
        replace HR := Lib.hid (HR.out.trans (if_pos k6))
        clear k6
        go_wp2
        go_ret
        exact ⟨by rw [HR.out]; rfl, below_step HW.out HB⟩
    · have k5' : ((exprM p [] cd.l).2 == 0) = false := beq_eq_false_iff_ne.2 k5
      replace HR := Lib.hid (HR.out.trans (if_pos k5))
      clear k5
      go_wp2
      go_ret
      exact ⟨by rw [HR.out]; rfl, below_step HW.out HB⟩
  · replace HR := Lib.hid (HR.out.trans (if_neg h2))
    have k2 : (kd == 2) = false := beq_eq_false_iff_ne.2 h2
    go_enter Tryz.func179, Tryz.ntmps179
    go_upto_region 1 with fail
    rw [← hW]
    clear hW
    go_wp2
    go_ret
    exact ⟨by rw [HR.out]; rfl, below_step HW.out HB⟩

theorem checkNode_any (p : ProgD) (x : CtlD) (ul : List Int) (uA : Option Addr) (uc : Nat) (w : World) (o : ProgOk w p) (hx : LOk w 3 NodeD.cells x.cond) (hu : LOk w 1 icell ⟨ul, uA, uc⟩) (hle : x.th.l.length + x.el.l.length ≤ 90000) :
    Calls Tryz.prog 179 #[.agg (progCells p), .agg (ctlCells x), .slice uA ul.length uc] w fun e w' => e = .returned (.int .i64 (nodeM p ul x)) ∧ Below w.heap.size w w' := by
  obtain ⟨kd, tb, cd, tl, el, tA, eA, tc, ec⟩ := x
  by_cases h1 : kd = 1 ∨ kd = 3
  · exact node_apply p kd tb cd tl el tA eA tc ec ul uA uc w h1 hu hle
  · exact node_other p kd tb cd tl el tA eA tc ec ul uA uc w h1 o hx
end Go.Proofs.YtbfjknidinkafaaGreat

