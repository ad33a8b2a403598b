/- The walks of the reference's checks of a program's lists: limits, headers, registers, actions, tables. No condition but that the program lies in memory and its numbers are of their kinds. The walks of the reference's check of the metadata, of parser, control flow and deparser together, and of Check. No condition but that the program lies in memory, its numbers are of their kinds, at most 90000 nodes. The walk of the reference's check of a whole program. No condition but that the program lies in memory, its numbers are of their kinds, at most 90000 nodes. -/
import Derived.Test.YtbfjknidinkafaaGreatRcN
import Derived.Test.YtbfjknidinkafaaGreatJa
import Derived.Test.YtbfjknidinkafaaGreatMov
namespace Go.Proofs.YtbfjknidinkafaaGreat
open Go.RowKit

/-- a diagnostic, or none -/
def dgV (d : Option DiagD) : Value := (d.getD noDiag).val
theorem put_diag {w : World} {k : Nat} {a b c d : Value} (h : Blk w k 44 #[a, b, c, d]) (x y z u : Value) :
    Blk ((((w.setCell ⟨k, 0, none⟩ x).setCell ⟨k, 1, none⟩ y).setCell ⟨k, 2, none⟩ z).setCell ⟨k, 3, none⟩ u) k 44 #[x, y, z, u] := (((h.set_ 0 x).set_ 1 y).set_ 2 z).set_ 3 u
theorem put_below {w w1 : World} {B k : Nat} (hb : Below B w w1) (hk : B ≤ k) (x y z u : Value) :
    Below B w ((((w1.setCell ⟨k, 0, none⟩ x).setCell ⟨k, 1, none⟩ y).setCell ⟨k, 2, none⟩ z).setCell ⟨k, 3, none⟩ u) := (((hb.setCell hk _).setCell hk _).setCell hk _).setCell hk _
theorem rat_any (c p i s : Int) (w : World) :
    Calls Tryz.prog 93 #[.int .i64 c, .int .i64 p, .int .i64 i, .int .i64 s] w fun e w' => e = .returned (.agg #[.int .i64 c, .int .i64 p, .int .i64 i, .int .i64 s]) ∧ Below w.heap.size w w' := by
  go_enter Tryz.func93, Tryz.ntmps93
  go_wp2
  refine bodyPost_ret (v := .agg #[.int .i64 c, .int .i64 p, .int .i64 i, .int .i64 s]) (by simp [results, Tryz.results93, go_sem]) rfl ⟨rfl, below1 _ _⟩
/-- the program's box and the result's cell -/
theorem boxD (w : World) (p : ProgD) : ∃ W, W = (w.alloc (.cells (progCells p) 31)).alloc (.cells #[.int .i64 0, .int .i64 0, .int .i64 0, .int .i64 0] 44) ∧ Below w.heap.size w W ∧ Below W.heap.size W W ∧
    (∀ w', Below W.heap.size W w' → (∀ i, i < (progCells p).size → w'.cell? ⟨w.heap.size, i, none⟩ = (progCells p)[i]?) ∧ (∀ i, i < 4 → w'.cell? ⟨w.heap.size + 1, i, none⟩ = some (.int .i64 0)) ∧ (∀ i, w'.frozen? ⟨w.heap.size + 1, i, none⟩ = false)) ∧
    ∀ w', Below W.heap.size W w' → Blk w' (w.heap.size + 1) 44 #[.int .i64 0, .int .i64 0, .int .i64 0, .int .i64 0] := by
  obtain ⟨W, h1, h2, h3, _, h5⟩ := boxC w (progCells p) 31 #[.int .i64 0, .int .i64 0, .int .i64 0, .int .i64 0] 44
  refine ⟨W, h1, h2, h3, fun w' h => ⟨(h5 w' h).1, fun i hi => ?_, (h5 w' h).2.2.2.1⟩, fun w' h => (h5 w' h).2.2.2.2⟩
  rw [(h5 w' h).2.1 i hi]
  match i, hi with
  | 0, _ => rfl
  | 1, _ => rfl
  | 2, _ => rfl
  | 3, _ => rfl

set_option maxRecDepth 100000 in
set_option maxHeartbeats 8000000 in
theorem rwhole_any (p : ProgD) (w : World) (o : ProgOk w p) :
    Calls Tryz.prog 45 #[.agg (progCells p)] w fun e w' => e = .returned (dgV (limM p)) ∧ Below w.heap.size w w' := by
  have HS := Lib.hid o.name
  have HR := Lib.hid (limM.eq_1 p)
  obtain ⟨W, hW, hw, HB, hp, hQ⟩ := boxD w p
  have HW := Lib.hid hw
  have HQ := Lib.hid hQ
  clear o hw hQ
  go_enter Tryz.func45, Tryz.ntmps45
  go_upto_region 1 with fail
  rw [← hW]
  clear hW
  have hp3 := hp W HB
  go_wp2_with fail
  refine (risIdent_any p.name _ HS.out).mono ?_
  rintro e w' ⟨rfl, rfl⟩
  cases h1 : identM p.name.data.toList
  · replace HR := Lib.hid (HR.out.trans (if_pos (show ident p.name = false from h1)))
    go_wp2_with fail
    refine (rat_any 6 0 0 0 _).mono ?_
    rintro e w1 ⟨rfl, hbN⟩
    replace HB := below_step (by first | exact HB | exact below_alloc HB _ | exact below_alloc (below_alloc HB _) _ | exact below_alloc (below_alloc (below_alloc HB _) _) _) hbN
    clear hbN
    replace hp3 := hp _ HB
    go_wp2
    refine bodyPost_ret (v := .agg #[.int .i64 (6), .int .i64 (0), .int .i64 (0), .int .i64 (0)]) ?_ rfl ?_
    · exact results_cell_row (fn := Tryz.f45) (p := 2) (ty := 44) rfl _ _ (w.heap.size + 1) 44 #[.int .i64 (6), .int .i64 (0), .int .i64 (0), .int .i64 (0)] (0, 0) _ rfl (put_diag (HQ.out _ HB) _ _ _ _) Tryz.underlying44 rfl (by kernel_rfl)
    · exact ⟨by first | (rw [HR.out]; done) | (rw [HR.out]; rfl), put_below (below_step HW.out HB) (Nat.le_succ _) _ _ _ _⟩
  replace HR := Lib.hid (HR.out.trans (if_neg (show ¬ ident p.name = false by rw [show ident p.name = true from h1]; simp)))
  clear h1
  by_cases k1 : 8 < p.headers.l.length
  · replace HR := Lib.hid (HR.out.trans (if_pos k1))
    go_wp2_with fail
    refine (rat_any 12 0 1 0 _).mono ?_
    rintro e w1 ⟨rfl, hbN⟩
    replace HB := below_step (by first | exact HB | exact below_alloc HB _ | exact below_alloc (below_alloc HB _) _ | exact below_alloc (below_alloc (below_alloc HB _) _) _) hbN
    clear hbN
    replace hp3 := hp _ HB
    go_wp2
    refine bodyPost_ret (v := .agg #[.int .i64 (12), .int .i64 (0), .int .i64 (1), .int .i64 (0)]) ?_ rfl ?_
    · exact results_cell_row (fn := Tryz.f45) (p := 2) (ty := 44) rfl _ _ (w.heap.size + 1) 44 #[.int .i64 (12), .int .i64 (0), .int .i64 (1), .int .i64 (0)] (0, 0) _ rfl (put_diag (HQ.out _ HB) _ _ _ _) Tryz.underlying44 rfl (by kernel_rfl)
    · exact ⟨by first | (rw [HR.out]; done) | (rw [HR.out]; rfl), put_below (below_step HW.out HB) (Nat.le_succ _) _ _ _ _⟩
  replace HR := Lib.hid (HR.out.trans (if_neg k1))
  by_cases k2 : 4 < p.registers.l.length
  · replace HR := Lib.hid (HR.out.trans (if_pos k2))
    go_wp2_with fail
    refine (rat_any 12 0 3 0 _).mono ?_
    rintro e w1 ⟨rfl, hbN⟩
    replace HB := below_step (by first | exact HB | exact below_alloc HB _ | exact below_alloc (below_alloc HB _) _ | exact below_alloc (below_alloc (below_alloc HB _) _) _) hbN
    clear hbN
    replace hp3 := hp _ HB
    go_wp2
    refine bodyPost_ret (v := .agg #[.int .i64 (12), .int .i64 (0), .int .i64 (3), .int .i64 (0)]) ?_ rfl ?_
    · exact results_cell_row (fn := Tryz.f45) (p := 2) (ty := 44) rfl _ _ (w.heap.size + 1) 44 #[.int .i64 (12), .int .i64 (0), .int .i64 (3), .int .i64 (0)] (0, 0) _ rfl (put_diag (HQ.out _ HB) _ _ _ _) Tryz.underlying44 rfl (by kernel_rfl)
    · exact ⟨by first | (rw [HR.out]; done) | (rw [HR.out]; rfl), put_below (below_step HW.out HB) (Nat.le_succ _) _ _ _ _⟩
  replace HR := Lib.hid (HR.out.trans (if_neg k2))
  by_cases k3 : 16 < p.actions.l.length
  · replace HR := Lib.hid (HR.out.trans (if_pos k3))
    go_wp2_with fail
    refine (rat_any 12 0 4 0 _).mono ?_
    rintro e w1 ⟨rfl, hbN⟩
    replace HB := below_step (by first | exact HB | exact below_alloc HB _ | exact below_alloc (below_alloc HB _) _ | exact below_alloc (below_alloc (below_alloc HB _) _) _) hbN
    clear hbN
    replace hp3 := hp _ HB
    go_wp2
    refine bodyPost_ret (v := .agg #[.int .i64 (12), .int .i64 (0), .int .i64 (4), .int .i64 (0)]) ?_ rfl ?_
    · exact results_cell_row (fn := Tryz.f45) (p := 2) (ty := 44) rfl _ _ (w.heap.size + 1) 44 #[.int .i64 (12), .int .i64 (0), .int .i64 (4), .int .i64 (0)] (0, 0) _ rfl (put_diag (HQ.out _ HB) _ _ _ _) Tryz.underlying44 rfl (by kernel_rfl)
    · exact ⟨by first | (rw [HR.out]; done) | (rw [HR.out]; rfl), put_below (below_step HW.out HB) (Nat.le_succ _) _ _ _ _⟩
  replace HR := Lib.hid (HR.out.trans (if_neg k3))
  by_cases k4 : 12 < p.tables.l.length
  · replace HR := Lib.hid (HR.out.trans (if_pos k4))
    go_wp2_with fail
    refine (rat_any 12 0 5 0 _).mono ?_
    rintro e w1 ⟨rfl, hbN⟩
    replace HB := below_step (by first | exact HB | exact below_alloc HB _ | exact below_alloc (below_alloc HB _) _ | exact below_alloc (below_alloc (below_alloc HB _) _) _) hbN
    clear hbN
    replace hp3 := hp _ HB
    go_wp2
    refine bodyPost_ret (v := .agg #[.int .i64 (12), .int .i64 (0), .int .i64 (5), .int .i64 (0)]) ?_ rfl ?_
    · exact results_cell_row (fn := Tryz.f45) (p := 2) (ty := 44) rfl _ _ (w.heap.size + 1) 44 #[.int .i64 (12), .int .i64 (0), .int .i64 (5), .int .i64 (0)] (0, 0) _ rfl (put_diag (HQ.out _ HB) _ _ _ _) Tryz.underlying44 rfl (by kernel_rfl)
    · exact ⟨by first | (rw [HR.out]; done) | (rw [HR.out]; rfl), put_below (below_step HW.out HB) (Nat.le_succ _) _ _ _ _⟩
  replace HR := Lib.hid (HR.out.trans (if_neg k4))
  go_wp2
  refine bodyPost_ret (v := .agg #[.int .i64 (0), .int .i64 (0), .int .i64 (0), .int .i64 (0)]) ?_ rfl ?_
  · exact results_cell_row (fn := Tryz.f45) (p := 2) (ty := 44) rfl _ _ (w.heap.size + 1) 44 #[.int .i64 (0), .int .i64 (0), .int .i64 (0), .int .i64 (0)] (0, 0) _ rfl (put_diag (HQ.out _ HB) _ _ _ _) Tryz.underlying44 rfl (by kernel_rfl)
  · exact ⟨by first | (rw [HR.out]; done) | (rw [HR.out]; rfl), put_below (below_step HW.out HB) (Nat.le_succ _) _ _ _ _⟩

set_option maxRecDepth 100000 in
set_option maxHeartbeats 16000000 in
theorem rheaders_any (p : ProgD) (w : World) (o : ProgOk w p) :
    Calls Tryz.prog 46 #[.agg (progCells p)] w fun e w' => e = .returned (dgV (hdrsM p)) ∧ Below w.heap.size w w' := by
  have HO := Lib.hid o
  have HR := Lib.hid (hdrsM.eq_1 p)
  obtain ⟨W, hW, hw, HB, hp, hQ⟩ := boxD w p
  have HW := Lib.hid hw
  have HQ := Lib.hid hQ
  clear hQ
  by_cases h0 : p.headers.l.length = 0
  · have h0' : ¬ (0 : Int) < (p.headers.l.length : Int) := by omega
    replace HR : Hid (hdrsM p = none) := Lib.hid (by rw [HR.out, h0]; rfl)
    clear o hw h0
    go_enter Tryz.func46, Tryz.ntmps46
    go_upto_region 1 with fail
    rw [← hW]
    clear hW
    have hp3 := hp W HB
    go_wp2
    refine wp_loop_rounds 1 ?_
    rw [rounds_succ]
    go_wp2
    refine bodyPost_ret (v := .agg #[.int .i64 (0), .int .i64 (0), .int .i64 (0), .int .i64 (0)]) ?_ rfl ?_
    · exact results_cell_row (fn := Tryz.f46) (p := 2) (ty := 44) rfl _ _ (w.heap.size + 1) 44 #[.int .i64 (0), .int .i64 (0), .int .i64 (0), .int .i64 (0)] (0, 0) _ rfl (put_diag (HQ.out _ HB) _ _ _ _) Tryz.underlying44 rfl (by kernel_rfl)
    · exact ⟨by first | (rw [HR.out]; done) | (rw [HR.out]; rfl), put_below (below_step HW.out HB) (Nat.le_succ _) _ _ _ _⟩
  have hmx : p.headers.l.length ≤ 9223372036854775807 := o.headers.1
  obtain ⟨g, of, hA, hall⟩ := HeaderD.allA (o.headers.below hw (Nat.le_refl _)) (show 0 < p.headers.l.length by omega)
  have HAL := Lib.hid hall
  have HAA := Lib.hid hA
  simp only [progCells, hA] at hp hW ⊢
  clear o hw hA hall h0
  have HB1 := Lib.hid HB
  have HS := Lib.hid (hdrAtM_at p.headers.l)
  go_enter Tryz.func46, Tryz.ntmps46
  go_upto_region 1 with fail
  rw [← hW]
  clear hW
  go_wp2
  clear HB
  go_loopw [3, 4, 5] (fun iv _ _ wr => ∃ i : Nat, i ≤ p.headers.l.length ∧ iv = .int .i64 i ∧ (∀ j, j < i → hdrAtM p.headers.l j = none) ∧ Below W.heap.size W wr) (fun i _ _ _ => p.headers.l.length - (intOf i).toNat)
  case atStart => exact ⟨0, Nat.zero_le _, rfl, fun j hj => absurd hj (Nat.not_lt_zero _), HB1.out⟩
  case round =>
  obtain ⟨i, hi, rfl, hpre, HB⟩ := hrel
  have HPre := Lib.hid hpre
  have hp3 := hp wr HB
  clear hpre HB1
  by_cases hlt : i < p.headers.l.length
  case neg =>
    have e : i = p.headers.l.length := by omega
    replace HR := Lib.hid (HR.out.trans (show _ = none by rw [firstE_none (by rw [← e]; exact HPre.out)]))
    go_wp2
    refine bodyPost_ret (v := .agg #[.int .i64 (0), .int .i64 (0), .int .i64 (0), .int .i64 (0)]) ?_ rfl ?_
    · exact results_cell_row (fn := Tryz.f46) (p := 2) (ty := 44) rfl _ _ (w.heap.size + 1) 44 #[.int .i64 (0), .int .i64 (0), .int .i64 (0), .int .i64 (0)] (0, 0) _ rfl (put_diag (HQ.out _ HB) _ _ _ _) Tryz.underlying44 rfl (by kernel_rfl)
    · exact ⟨by first | (rw [HR.out]; done) | (rw [HR.out]; rfl), put_below (below_step HW.out HB) (Nat.le_succ _) _ _ _ _⟩
  have HF := Lib.hid (HS.out i hlt)
  have HD := Lib.hid (dup_tells (f := HeaderD.name) hlt)
  have HALi := Lib.hid (fun w' h => HAL.out w' h i hlt)
  have HCk : Hid (∀ u, Below W.heap.size W u → _) := Lib.hid (fun u (hb : Below W.heap.size W u) => rhdr_any p.headers.l[i] u ((HO.out.hdr _ (List.getElem_mem hlt)).below (below_step HW.out hb)))
  generalize p.headers.l[i] = y at *
  obtain ⟨yn, ⟨yl, yA, yc⟩⟩ := y
  simp only at HF HD HALi HCk
  have d := HALi.out wr HB
  go_wp2_with fail
  refine (HCk.out _ (by first | exact HB | exact below_alloc HB _ | exact below_alloc (below_alloc HB _) _ | exact below_alloc (below_alloc (below_alloc HB _) _) _)).mono ?_
  rintro e w1 ⟨rfl, hbN⟩
  replace HB := below_step (by first | exact HB | exact below_alloc HB _ | exact below_alloc (below_alloc HB _) _ | exact below_alloc (below_alloc (below_alloc HB _) _) _) hbN
  clear hbN
  generalize hdrM ⟨yn, ⟨yl, yA, yc⟩⟩ = c at *
  clear d hp3
  have d := HALi.out _ HB
  have hp3 := hp _ HB
  by_cases k1 : c = 0
  case neg =>
    have k1' : (c == 0) = false := beq_eq_false_iff_ne.2 k1
    replace HR := Lib.hid (HR.out.trans (firstE_some hlt HPre.out (HF.out.trans (if_pos k1))))
    clear k1
    have hi0 : (0 : Int) < (i : Int) ∨ ¬ (0 : Int) < (i : Int) := by omega
    rcases hi0 with hi0 | hi0
    all_goals
      go_wp2
      refine wp_loop_rounds 1 ?_
      rw [rounds_succ]
      go_wp2_with fail
      refine (rat_any c 1 i 0 _).mono ?_
      rintro e w2 ⟨rfl, hbN⟩
      replace HB := below_step (by first | exact HB | exact below_alloc HB _ | exact below_alloc (below_alloc HB _) _ | exact below_alloc (below_alloc (below_alloc HB _) _) _) hbN
      clear hbN
      clear hp3
      have hp3 := hp _ HB
      go_wp2
      refine bodyPost_ret (v := .agg #[.int .i64 (c), .int .i64 (1), .int .i64 (i), .int .i64 (0)]) ?_ rfl ?_
      · exact results_cell_row (fn := Tryz.f46) (p := 2) (ty := 44) rfl _ _ (w.heap.size + 1) 44 #[.int .i64 (c), .int .i64 (1), .int .i64 (i), .int .i64 (0)] (0, 0) _ rfl (put_diag (HQ.out _ HB) _ _ _ _) Tryz.underlying44 rfl (by kernel_rfl)
      · exact ⟨by first | (rw [HR.out]; done) | (rw [HR.out]; rfl), put_below (below_step HW.out HB) (Nat.le_succ _) _ _ _ _⟩
  subst k1
  replace HF := Lib.hid (HF.out.trans (if_neg (fun h => h rfl)))
  by_cases km : yn = metaName
  · replace HR := Lib.hid (HR.out.trans (firstE_some hlt HPre.out (HF.out.trans (if_pos km))))
    have km' := meta_true km
    clear km
    have hi0 : (0 : Int) < (i : Int) ∨ ¬ (0 : Int) < (i : Int) := by omega
    rcases hi0 with hi0 | hi0
    all_goals
      go_wp2
      refine wp_loop_rounds 1 ?_
      rw [rounds_succ]
      go_wp2_with fail
      refine (rat_any 6 1 i 0 _).mono ?_
      rintro e w2 ⟨rfl, hbN⟩
      replace HB := below_step (by first | exact HB | exact below_alloc HB _ | exact below_alloc (below_alloc HB _) _ | exact below_alloc (below_alloc (below_alloc HB _) _) _) hbN
      clear hbN
      clear hp3
      have hp3 := hp _ HB
      go_wp2
      refine bodyPost_ret (v := .agg #[.int .i64 (6), .int .i64 (1), .int .i64 (i), .int .i64 (0)]) ?_ rfl ?_
      · exact results_cell_row (fn := Tryz.f46) (p := 2) (ty := 44) rfl _ _ (w.heap.size + 1) 44 #[.int .i64 (6), .int .i64 (1), .int .i64 (i), .int .i64 (0)] (0, 0) _ rfl (put_diag (HQ.out _ HB) _ _ _ _) Tryz.underlying44 rfl (by kernel_rfl)
      · exact ⟨by first | (rw [HR.out]; done) | (rw [HR.out]; rfl), put_below (below_step HW.out HB) (Nat.le_succ _) _ _ _ _⟩
  have km' := meta_false km
  replace HF := Lib.hid (HF.out.trans (if_neg km))
  clear km
  have HB0 := Lib.hid HB
  go_wp2
  clear HB d hp3
  go_loopw [4, 5] (fun ev kv wr => ∃ (k : Nat) (c : Int), k ≤ i ∧ kv = .int .i64 k ∧ ev = .int .i64 c ∧ Hid ((c = 0 ∧ ∀ j (hj : j < p.headers.l.length), j < k → p.headers.l[j].name ≠ yn) ∨ (c = 7 ∧ dupB (p.headers.l.map HeaderD.name) i = true)) ∧ Below W.heap.size W wr) (fun _ k _ => i - (intOf k).toNat)
  case atStart => exact ⟨0, 0, Nat.zero_le _, rfl, rfl, Lib.hid (.inl ⟨rfl, fun j _ hj => absurd hj (Nat.not_lt_zero _)⟩), HB0.out⟩
  case round =>
  clear HB0
  obtain ⟨k, c, hk, rfl, rfl, HC, HB⟩ := hrel
  have d := HALi.out _ HB
  have hp3 := hp _ HB
  rcases HC.out with ⟨rfl, hn⟩ | ⟨rfl, hdup⟩
  · have HN := Lib.hid hn
    clear hn HC
    by_cases hki : k < i
    · have hkl : k < p.headers.l.length := by omega
      have hkl' : (k : Int) < (p.headers.l.length : Int) := by omega
      have hil' : (i : Int) < (p.headers.l.length : Int) := by omega
      have e0 := HAL.out _ HB k hkl
      have HY : Hid (p.headers.l[k].name = yn → dupB (p.headers.l.map HeaderD.name) i = true) := Lib.hid (fun e => HD.out.1 k hkl hki e)
      have HZ : Hid (p.headers.l[k].name ≠ yn → ∀ j (hj : j < p.headers.l.length), j < k + 1 → p.headers.l[j].name ≠ yn) := Lib.hid (fun hne => pre_ne (f := fun _ (a : HeaderD) => a.name ≠ yn) HN.out hne)
      have e1 := e0.1
      clear e0
      generalize p.headers.l[k].name = t at *
      by_cases ht : t = yn
      · have ht' := toList_true ht
        have HY2 := Lib.hid (HY.out ht)
        clear ht HY HZ
        go_wp2
        go_quiet (fail)
        go_wp2
        go_roundw
        case rel => exact ⟨k + 1, 7, by omega, by go_num, rfl, Lib.hid (.inr ⟨rfl, HY2.out⟩), below_drewN HB _⟩
        case measure => simp [intOf]; omega
      · have HZ2 := Lib.hid (HZ.out ht)
        have ht' := toList_false ht
        clear ht HY HZ
        go_wp2
        go_quiet (fail)
        go_wp2
        go_roundw
        case rel => exact ⟨k + 1, 0, by omega, by go_num, rfl, Lib.hid (.inl ⟨rfl, HZ2.out⟩), below_drewN HB _⟩
        case measure => simp [intOf]; omega
    · have e : k = i := by omega
      subst e
      have HP2 := Lib.hid (pre_step HPre.out (HF.out.trans (if_neg (by rw [HD.out.2 HN.out]; simp))))
      go_wp2
      go_roundw
      case rel => exact ⟨k + 1, by omega, by go_num, HP2.out, HB⟩
      case measure => simp [intOf]; omega
  · replace HR := Lib.hid (HR.out.trans (firstE_some hlt HPre.out (HF.out.trans (if_pos hdup))))
    clear HC hdup
    have hi0 : (k : Int) < (i : Int) ∨ ¬ (k : Int) < (i : Int) := by omega
    rcases hi0 with hi0 | hi0
    all_goals
      go_wp2_with fail
      refine (rat_any 7 1 i 0 _).mono ?_
      rintro e w2 ⟨rfl, hbN⟩
      replace HB := below_step (by first | exact HB | exact below_alloc HB _ | exact below_alloc (below_alloc HB _) _ | exact below_alloc (below_alloc (below_alloc HB _) _) _) hbN
      clear hbN
      clear hp3
      have hp3 := hp _ HB
      go_wp2
      refine bodyPost_ret (v := .agg #[.int .i64 (7), .int .i64 (1), .int .i64 (i), .int .i64 (0)]) ?_ rfl ?_
      · exact results_cell_row (fn := Tryz.f46) (p := 2) (ty := 44) rfl _ _ (w.heap.size + 1) 44 #[.int .i64 (7), .int .i64 (1), .int .i64 (i), .int .i64 (0)] (0, 0) _ rfl (put_diag (HQ.out _ HB) _ _ _ _) Tryz.underlying44 rfl (by kernel_rfl)
      · exact ⟨by first | (rw [HR.out]; done) | (rw [HR.out]; rfl), put_below (below_step HW.out HB) (Nat.le_succ _) _ _ _ _⟩

set_option maxRecDepth 100000 in
set_option maxHeartbeats 16000000 in
theorem rregisters_any (p : ProgD) (w : World) (o : ProgOk w p) :
    Calls Tryz.prog 48 #[.agg (progCells p)] w fun e w' => e = .returned (dgV (regsM p)) ∧ Below w.heap.size w w' := by
  have HO := Lib.hid o
  have HR := Lib.hid (regsM.eq_1 p)
  obtain ⟨W, hW, hw, HB, hp, hQ⟩ := boxD w p
  have HW := Lib.hid hw
  have HQ := Lib.hid hQ
  clear hQ
  by_cases h0 : p.registers.l.length = 0
  · have h0' : ¬ (0 : Int) < (p.registers.l.length : Int) := by omega
    replace HR : Hid (regsM p = none) := Lib.hid (by rw [HR.out, h0]; rfl)
    clear o hw h0
    go_enter Tryz.func48, Tryz.ntmps48
    go_upto_region 1 with fail
    rw [← hW]
    clear hW
    have hp3 := hp W HB
    go_wp2
    refine wp_loop_rounds 1 ?_
    rw [rounds_succ]
    go_wp2
    refine bodyPost_ret (v := .agg #[.int .i64 (0), .int .i64 (0), .int .i64 (0), .int .i64 (0)]) ?_ rfl ?_
    · exact results_cell_row (fn := Tryz.f48) (p := 2) (ty := 44) rfl _ _ (w.heap.size + 1) 44 #[.int .i64 (0), .int .i64 (0), .int .i64 (0), .int .i64 (0)] (0, 0) _ rfl (put_diag (HQ.out _ HB) _ _ _ _) Tryz.underlying44 rfl (by kernel_rfl)
    · exact ⟨by first | (rw [HR.out]; done) | (rw [HR.out]; rfl), put_below (below_step HW.out HB) (Nat.le_succ _) _ _ _ _⟩
  have hmx : p.registers.l.length ≤ 9223372036854775807 := o.registers.1
  obtain ⟨g, of, hA, hall⟩ := RegD.allA (o.registers.below hw (Nat.le_refl _)) (show 0 < p.registers.l.length by omega)
  have HAL := Lib.hid hall
  have HAA := Lib.hid hA
  simp only [progCells, hA] at hp hW ⊢
  clear o hw hA hall h0
  have HB1 := Lib.hid HB
  have HS := Lib.hid (regAtM_at p.registers.l)
  go_enter Tryz.func48, Tryz.ntmps48
  go_upto_region 1 with fail
  rw [← hW]
  clear hW
  go_wp2
  clear HB
  go_loopw [3, 4, 5] (fun iv _ _ wr => ∃ i : Nat, i ≤ p.registers.l.length ∧ iv = .int .i64 i ∧ (∀ j, j < i → regAtM p.registers.l j = none) ∧ Below W.heap.size W wr) (fun i _ _ _ => p.registers.l.length - (intOf i).toNat)
  case atStart => exact ⟨0, Nat.zero_le _, rfl, fun j hj => absurd hj (Nat.not_lt_zero _), HB1.out⟩
  case round =>
  obtain ⟨i, hi, rfl, hpre, HB⟩ := hrel
  have HPre := Lib.hid hpre
  have hp3 := hp wr HB
  clear hpre HB1
  by_cases hlt : i < p.registers.l.length
  case neg =>
    have e : i = p.registers.l.length := by omega
    replace HR := Lib.hid (HR.out.trans (show _ = none by rw [firstE_none (by rw [← e]; exact HPre.out)]))
    go_wp2
    refine bodyPost_ret (v := .agg #[.int .i64 (0), .int .i64 (0), .int .i64 (0), .int .i64 (0)]) ?_ rfl ?_
    · exact results_cell_row (fn := Tryz.f48) (p := 2) (ty := 44) rfl _ _ (w.heap.size + 1) 44 #[.int .i64 (0), .int .i64 (0), .int .i64 (0), .int .i64 (0)] (0, 0) _ rfl (put_diag (HQ.out _ HB) _ _ _ _) Tryz.underlying44 rfl (by kernel_rfl)
    · exact ⟨by first | (rw [HR.out]; done) | (rw [HR.out]; rfl), put_below (below_step HW.out HB) (Nat.le_succ _) _ _ _ _⟩
  have HF := Lib.hid (HS.out i hlt)
  have HD := Lib.hid (dup_tells (f := RegD.name) hlt)
  have HALi := Lib.hid (fun w' h => HAL.out w' h i hlt)
  have HCk : Hid (∀ u, Below W.heap.size W u → _) := Lib.hid (fun u (hb : Below W.heap.size W u) => rreg_any p.registers.l[i] (HO.out.rnames _ (List.getElem_mem hlt)) u)
  generalize p.registers.l[i] = y at *
  obtain ⟨yn, yw, ys⟩ := y
  simp only at HF HD HALi HCk
  have d := HALi.out wr HB
  go_wp2_with fail
  refine (HCk.out _ (by first | exact HB | exact below_alloc HB _ | exact below_alloc (below_alloc HB _) _ | exact below_alloc (below_alloc (below_alloc HB _) _) _)).mono ?_
  rintro e w1 ⟨rfl, hbN⟩
  replace HB := below_step (by first | exact HB | exact below_alloc HB _ | exact below_alloc (below_alloc HB _) _ | exact below_alloc (below_alloc (below_alloc HB _) _) _) hbN
  clear hbN
  generalize regM ⟨yn, yw, ys⟩ = c at *
  clear d hp3
  have d := HALi.out _ HB
  have hp3 := hp _ HB
  by_cases k1 : c = 0
  case neg =>
    have k1' : (c == 0) = false := beq_eq_false_iff_ne.2 k1
    replace HR := Lib.hid (HR.out.trans (firstE_some hlt HPre.out (HF.out.trans (if_pos k1))))
    clear k1
    have hi0 : (0 : Int) < (i : Int) ∨ ¬ (0 : Int) < (i : Int) := by omega
    rcases hi0 with hi0 | hi0
    all_goals
      go_wp2
      refine wp_loop_rounds 1 ?_
      rw [rounds_succ]
      go_wp2_with fail
      refine (rat_any c 3 i 0 _).mono ?_
      rintro e w2 ⟨rfl, hbN⟩
      replace HB := below_step (by first | exact HB | exact below_alloc HB _ | exact below_alloc (below_alloc HB _) _ | exact below_alloc (below_alloc (below_alloc HB _) _) _) hbN
      clear hbN
      clear hp3
      have hp3 := hp _ HB
      go_wp2
      refine bodyPost_ret (v := .agg #[.int .i64 (c), .int .i64 (3), .int .i64 (i), .int .i64 (0)]) ?_ rfl ?_
      · exact results_cell_row (fn := Tryz.f48) (p := 2) (ty := 44) rfl _ _ (w.heap.size + 1) 44 #[.int .i64 (c), .int .i64 (3), .int .i64 (i), .int .i64 (0)] (0, 0) _ rfl (put_diag (HQ.out _ HB) _ _ _ _) Tryz.underlying44 rfl (by kernel_rfl)
      · exact ⟨by first | (rw [HR.out]; done) | (rw [HR.out]; rfl), put_below (below_step HW.out HB) (Nat.le_succ _) _ _ _ _⟩
  subst k1
  replace HF := Lib.hid (HF.out.trans (if_neg (fun h => h rfl)))
  have HB0 := Lib.hid HB
  go_wp2
  clear HB d hp3
  go_loopw [4, 5] (fun ev kv wr => ∃ (k : Nat) (c : Int), k ≤ i ∧ kv = .int .i64 k ∧ ev = .int .i64 c ∧ Hid ((c = 0 ∧ ∀ j (hj : j < p.registers.l.length), j < k → p.registers.l[j].name ≠ yn) ∨ (c = 7 ∧ dupB (p.registers.l.map RegD.name) i = true)) ∧ Below W.heap.size W wr) (fun _ k _ => i - (intOf k).toNat)
  case atStart => exact ⟨0, 0, Nat.zero_le _, rfl, rfl, Lib.hid (.inl ⟨rfl, fun j _ hj => absurd hj (Nat.not_lt_zero _)⟩), HB0.out⟩
  case round =>
  clear HB0
  obtain ⟨k, c, hk, rfl, rfl, HC, HB⟩ := hrel
  have d := HALi.out _ HB
  have hp3 := hp _ HB
  rcases HC.out with ⟨rfl, hn⟩ | ⟨rfl, hdup⟩
  · have HN := Lib.hid hn
    clear hn HC
    by_cases hki : k < i
    · have hkl : k < p.registers.l.length := by omega
      have hkl' : (k : Int) < (p.registers.l.length : Int) := by omega
      have hil' : (i : Int) < (p.registers.l.length : Int) := by omega
      have e0 := HAL.out _ HB k hkl
      have HY : Hid (p.registers.l[k].name = yn → dupB (p.registers.l.map RegD.name) i = true) := Lib.hid (fun e => HD.out.1 k hkl hki e)
      have HZ : Hid (p.registers.l[k].name ≠ yn → ∀ j (hj : j < p.registers.l.length), j < k + 1 → p.registers.l[j].name ≠ yn) := Lib.hid (fun hne => pre_ne (f := fun _ (a : RegD) => a.name ≠ yn) HN.out hne)
      have e1 := e0.1
      clear e0
      generalize p.registers.l[k].name = t at *
      by_cases ht : t = yn
      · have ht' := toList_true ht
        have HY2 := Lib.hid (HY.out ht)
        clear ht HY HZ
        go_wp2
        go_quiet (fail)
        go_wp2
        go_roundw
        case rel => exact ⟨k + 1, 7, by omega, by go_num, rfl, Lib.hid (.inr ⟨rfl, HY2.out⟩), below_drewN HB _⟩
        case measure => simp [intOf]; omega
      · have HZ2 := Lib.hid (HZ.out ht)
        have ht' := toList_false ht
        clear ht HY HZ
        go_wp2
        go_quiet (fail)
        go_wp2
        go_roundw
        case rel => exact ⟨k + 1, 0, by omega, by go_num, rfl, Lib.hid (.inl ⟨rfl, HZ2.out⟩), below_drewN HB _⟩
        case measure => simp [intOf]; omega
    · have e : k = i := by omega
      subst e
      have HP2 := Lib.hid (pre_step HPre.out (HF.out.trans (if_neg (by rw [HD.out.2 HN.out]; simp))))
      go_wp2
      go_roundw
      case rel => exact ⟨k + 1, by omega, by go_num, HP2.out, HB⟩
      case measure => simp [intOf]; omega
  · replace HR := Lib.hid (HR.out.trans (firstE_some hlt HPre.out (HF.out.trans (if_pos hdup))))
    clear HC hdup
    have hi0 : (k : Int) < (i : Int) ∨ ¬ (k : Int) < (i : Int) := by omega
    rcases hi0 with hi0 | hi0
    all_goals
      go_wp2_with fail
      refine (rat_any 7 3 i 0 _).mono ?_
      rintro e w2 ⟨rfl, hbN⟩
      replace HB := below_step (by first | exact HB | exact below_alloc HB _ | exact below_alloc (below_alloc HB _) _ | exact below_alloc (below_alloc (below_alloc HB _) _) _) hbN
      clear hbN
      clear hp3
      have hp3 := hp _ HB
      go_wp2
      refine bodyPost_ret (v := .agg #[.int .i64 (7), .int .i64 (3), .int .i64 (i), .int .i64 (0)]) ?_ rfl ?_
      · exact results_cell_row (fn := Tryz.f48) (p := 2) (ty := 44) rfl _ _ (w.heap.size + 1) 44 #[.int .i64 (7), .int .i64 (3), .int .i64 (i), .int .i64 (0)] (0, 0) _ rfl (put_diag (HQ.out _ HB) _ _ _ _) Tryz.underlying44 rfl (by kernel_rfl)
      · exact ⟨by first | (rw [HR.out]; done) | (rw [HR.out]; rfl), put_below (below_step HW.out HB) (Nat.le_succ _) _ _ _ _⟩

set_option maxRecDepth 100000 in
set_option maxHeartbeats 16000000 in
theorem ractions_any (p : ProgD) (w : World) (o : ProgOk w p) :
    Calls Tryz.prog 49 #[.agg (progCells p)] w fun e w' => e = .returned (dgV (actsM p)) ∧ Below w.heap.size w w' := by
  have HO := Lib.hid o
  have HR := Lib.hid (actsM.eq_1 p)
  obtain ⟨W, hW, hw, HB, hp, hQ⟩ := boxD w p
  have HW := Lib.hid hw
  have HQ := Lib.hid hQ
  clear hQ
  by_cases h0 : p.actions.l.length = 0
  · have h0' : ¬ (0 : Int) < (p.actions.l.length : Int) := by omega
    replace HR : Hid (actsM p = none) := Lib.hid (by rw [HR.out, h0]; rfl)
    clear o hw h0
    go_enter Tryz.func49, Tryz.ntmps49
    go_upto_region 1 with fail
    rw [← hW]
    clear hW
    have hp3 := hp W HB
    go_wp2
    refine wp_loop_rounds 1 ?_
    rw [rounds_succ]
    go_wp2
    refine bodyPost_ret (v := .agg #[.int .i64 (0), .int .i64 (0), .int .i64 (0), .int .i64 (0)]) ?_ rfl ?_
    · exact results_cell_row (fn := Tryz.f49) (p := 2) (ty := 44) rfl _ _ (w.heap.size + 1) 44 #[.int .i64 (0), .int .i64 (0), .int .i64 (0), .int .i64 (0)] (0, 0) _ rfl (put_diag (HQ.out _ HB) _ _ _ _) Tryz.underlying44 rfl (by kernel_rfl)
    · exact ⟨by first | (rw [HR.out]; done) | (rw [HR.out]; rfl), put_below (below_step HW.out HB) (Nat.le_succ _) _ _ _ _⟩
  have hmx : p.actions.l.length ≤ 9223372036854775807 := o.actions.1
  obtain ⟨g, of, hA, hall⟩ := ActD.allA (o.actions.below hw (Nat.le_refl _)) (show 0 < p.actions.l.length by omega)
  have HAL := Lib.hid hall
  have HAA := Lib.hid hA
  simp only [progCells, hA] at hp hW ⊢
  clear o hw hA hall h0
  have HB1 := Lib.hid HB
  have HS := Lib.hid (actAtM_at p)
  have HCs := Lib.hid (fun u (hb : Below W.heap.size W u) i hi => ractionCheck_any p i hi u (HO.out.below (below_step HW.out hb)))
  simp only [progCells, HAA.out] at HCs
  go_enter Tryz.func49, Tryz.ntmps49
  go_upto_region 1 with fail
  rw [← hW]
  clear hW
  go_wp2
  clear HB
  go_loopw [3, 4, 5, 6] (fun iv _ _ _ wr => ∃ i : Nat, i ≤ p.actions.l.length ∧ iv = .int .i64 i ∧ (∀ j, j < i → actAtM p j = none) ∧ Below W.heap.size W wr) (fun i _ _ _ _ => p.actions.l.length - (intOf i).toNat)
  case atStart => exact ⟨0, Nat.zero_le _, rfl, fun j hj => absurd hj (Nat.not_lt_zero _), HB1.out⟩
  case round =>
  obtain ⟨i, hi, rfl, hpre, HB⟩ := hrel
  have HPre := Lib.hid hpre
  have hp3 := hp wr HB
  clear hpre HB1
  by_cases hlt : i < p.actions.l.length
  case neg =>
    have e : i = p.actions.l.length := by omega
    replace HR := Lib.hid (HR.out.trans (show _ = none by rw [firstE_none (by rw [← e]; exact HPre.out)]))
    go_wp2
    refine bodyPost_ret (v := .agg #[.int .i64 (0), .int .i64 (0), .int .i64 (0), .int .i64 (0)]) ?_ rfl ?_
    · exact results_cell_row (fn := Tryz.f49) (p := 2) (ty := 44) rfl _ _ (w.heap.size + 1) 44 #[.int .i64 (0), .int .i64 (0), .int .i64 (0), .int .i64 (0)] (0, 0) _ rfl (put_diag (HQ.out _ HB) _ _ _ _) Tryz.underlying44 rfl (by kernel_rfl)
    · exact ⟨by first | (rw [HR.out]; done) | (rw [HR.out]; rfl), put_below (below_step HW.out HB) (Nat.le_succ _) _ _ _ _⟩
  have HF := Lib.hid (HS.out i hlt)
  have HD := Lib.hid (dup_tells (f := ActD.name) hlt)
  have HALi := Lib.hid (fun w' h => HAL.out w' h i hlt)
  have HCk := Lib.hid (fun u hb => HCs.out u hb i hlt)
  clear HCs
  generalize p.actions.l[i] = y at *
  go_wp2_with fail
  refine (HCk.out _ (by first | exact HB | exact below_alloc HB _ | exact below_alloc (below_alloc HB _) _ | exact below_alloc (below_alloc (below_alloc HB _) _) _)).mono ?_
  rintro e w1 ⟨rfl, hbN⟩
  replace HB := below_step (by first | exact HB | exact below_alloc HB _ | exact below_alloc (below_alloc HB _) _ | exact below_alloc (below_alloc (below_alloc HB _) _) _) hbN
  clear hbN
  generalize actM p y = r at *
  obtain ⟨sb, c⟩ := r
  simp only at HF
  clear hp3
  have hp3 := hp _ HB
  by_cases k1 : c = 0
  case neg =>
    have k1' : (c == 0) = false := beq_eq_false_iff_ne.2 k1
    replace HR := Lib.hid (HR.out.trans (firstE_some hlt HPre.out (HF.out.trans (if_pos k1))))
    clear k1
    go_wp2_with fail
    refine (rat_any c 4 i sb _).mono ?_
    rintro e w2 ⟨rfl, hbN⟩
    replace HB := below_step (by first | exact HB | exact below_alloc HB _ | exact below_alloc (below_alloc HB _) _ | exact below_alloc (below_alloc (below_alloc HB _) _) _) hbN
    clear hbN
    clear hp3
    have hp3 := hp _ HB
    go_wp2
    refine bodyPost_ret (v := .agg #[.int .i64 (c), .int .i64 (4), .int .i64 (i), .int .i64 (sb)]) ?_ rfl ?_
    · exact results_cell_row (fn := Tryz.f49) (p := 2) (ty := 44) rfl _ _ (w.heap.size + 1) 44 #[.int .i64 (c), .int .i64 (4), .int .i64 (i), .int .i64 (sb)] (0, 0) _ rfl (put_diag (HQ.out _ HB) _ _ _ _) Tryz.underlying44 rfl (by kernel_rfl)
    · exact ⟨by first | (rw [HR.out]; done) | (rw [HR.out]; rfl), put_below (below_step HW.out HB) (Nat.le_succ _) _ _ _ _⟩
  subst k1
  replace HF := Lib.hid (HF.out.trans (if_neg (fun h => h rfl)))
  have HB0 := Lib.hid HB
  go_wp2
  clear HB hp3
  go_loopw [6] (fun kv wr => ∃ (k : Nat), k ≤ i ∧ kv = .int .i64 k ∧ Hid (∀ j (hj : j < p.actions.l.length), j < k → p.actions.l[j].name ≠ y.name) ∧ Below W.heap.size W wr) (fun k _ => i - (intOf k).toNat)
  case atStart => exact ⟨0, Nat.zero_le _, rfl, Lib.hid (fun j _ hj => absurd hj (Nat.not_lt_zero _)), HB0.out⟩
  case round =>
  clear HB0
  obtain ⟨k, hk, rfl, HN, HB⟩ := hrel
  have d := (HALi.out _ HB).1
  have hp3 := hp _ HB
  by_cases hki : k < i
  · have hkl : k < p.actions.l.length := by omega
    have hkl' : (k : Int) < (p.actions.l.length : Int) := by omega
    have hil' : (i : Int) < (p.actions.l.length : Int) := by omega
    have e1 := (HAL.out _ HB k hkl).1
    have HY : Hid (p.actions.l[k].name = y.name → dupB (p.actions.l.map ActD.name) i = true) := Lib.hid (fun e => HD.out.1 k hkl hki e)
    have HZ : Hid (p.actions.l[k].name ≠ y.name → ∀ j (hj : j < p.actions.l.length), j < k + 1 → p.actions.l[j].name ≠ y.name) := Lib.hid (fun hne => pre_ne (f := fun _ (a : ActD) => a.name ≠ y.name) HN.out hne)
    generalize p.actions.l[k].name = t at *
    by_cases ht : t = y.name
    · have ht' := toList_true ht
      replace HR := Lib.hid (HR.out.trans (firstE_some hlt HPre.out (HF.out.trans (if_pos (HY.out ht)))))
      clear ht HY HZ
      go_wp2
      go_quiet (fail)
      replace HB := below_drewN HB nq
      go_wp2_with fail
      refine (rat_any 7 4 i 0 _).mono ?_
      rintro e w2 ⟨rfl, hbN⟩
      replace HB := below_step (by first | exact HB | exact below_alloc HB _ | exact below_alloc (below_alloc HB _) _ | exact below_alloc (below_alloc (below_alloc HB _) _) _) hbN
      clear hbN
      clear hp3
      have hp3 := hp _ HB
      go_wp2
      refine bodyPost_ret (v := .agg #[.int .i64 (7), .int .i64 (4), .int .i64 (i), .int .i64 (0)]) ?_ rfl ?_
      · exact results_cell_row (fn := Tryz.f49) (p := 2) (ty := 44) rfl _ _ (w.heap.size + 1) 44 #[.int .i64 (7), .int .i64 (4), .int .i64 (i), .int .i64 (0)] (0, 0) _ rfl (put_diag (HQ.out _ HB) _ _ _ _) Tryz.underlying44 rfl (by kernel_rfl)
      · exact ⟨by first | (rw [HR.out]; done) | (rw [HR.out]; rfl), put_below (below_step HW.out HB) (Nat.le_succ _) _ _ _ _⟩
    · have HZ2 := Lib.hid (HZ.out ht)
      have ht' := toList_false ht
      clear ht HY HZ
      go_wp2
      go_quiet (fail)
      go_wp2
      go_roundw
      case rel => exact ⟨k + 1, by omega, by go_num, HZ2, below_drewN HB _⟩
      case measure => simp [intOf]; omega
  · have e : k = i := by omega
    subst e
    have HP2 := Lib.hid (pre_step HPre.out (HF.out.trans (if_neg (by rw [HD.out.2 HN.out]; simp))))
    go_wp2
    go_roundw
    case rel => exact ⟨k + 1, by omega, by go_num, HP2.out, HB⟩
    case measure => simp [intOf]; omega

set_option maxRecDepth 100000 in
set_option maxHeartbeats 16000000 in
theorem rtables_any (p : ProgD) (w : World) (o : ProgOk w p) (hc : ∀ t ∈ p.tables.l, ∀ v ∈ t.args.l, (Lit.int .u32 v).wf = true) :
    Calls Tryz.prog 50 #[.agg (progCells p)] w fun e w' => e = .returned (dgV (tabsM p)) ∧ Below w.heap.size w w' := by
  have HO := Lib.hid o
  have HR := Lib.hid (tabsM.eq_1 p)
  obtain ⟨W, hW, hw, HB, hp, hQ⟩ := boxD w p
  have HW := Lib.hid hw
  have HQ := Lib.hid hQ
  clear hQ
  by_cases h0 : p.tables.l.length = 0
  · have h0' : ¬ (0 : Int) < (p.tables.l.length : Int) := by omega
    replace HR : Hid (tabsM p = none) := Lib.hid (by rw [HR.out, h0]; rfl)
    clear o hw h0
    go_enter Tryz.func50, Tryz.ntmps50
    go_upto_region 1 with fail
    rw [← hW]
    clear hW
    have hp3 := hp W HB
    go_wp2
    refine wp_loop_rounds 1 ?_
    rw [rounds_succ]
    go_wp2
    refine bodyPost_ret (v := .agg #[.int .i64 (0), .int .i64 (0), .int .i64 (0), .int .i64 (0)]) ?_ rfl ?_
    · exact results_cell_row (fn := Tryz.f50) (p := 2) (ty := 44) rfl _ _ (w.heap.size + 1) 44 #[.int .i64 (0), .int .i64 (0), .int .i64 (0), .int .i64 (0)] (0, 0) _ rfl (put_diag (HQ.out _ HB) _ _ _ _) Tryz.underlying44 rfl (by kernel_rfl)
    · exact ⟨by first | (rw [HR.out]; done) | (rw [HR.out]; rfl), put_below (below_step HW.out HB) (Nat.le_succ _) _ _ _ _⟩
  have hmx : p.tables.l.length ≤ 9223372036854775807 := o.tables.1
  obtain ⟨g, of, hA, hall⟩ := TabD.allA (o.tables.below hw (Nat.le_refl _)) (show 0 < p.tables.l.length by omega)
  have HAL := Lib.hid hall
  have HAA := Lib.hid hA
  simp only [progCells, hA] at hp hW ⊢
  clear o hw hA hall h0
  have HB1 := Lib.hid HB
  have HS := Lib.hid (tabAtM_at p)
  have HCs := Lib.hid (fun u (hb : Below W.heap.size W u) i hi => rtableCheck_any p i hi u (HO.out.below (below_step HW.out hb)) hc)
  simp only [progCells, HAA.out] at HCs
  clear hc
  go_enter Tryz.func50, Tryz.ntmps50
  go_upto_region 1 with fail
  rw [← hW]
  clear hW
  go_wp2
  clear HB
  go_loopw [3, 4, 5, 6] (fun iv _ _ _ wr => ∃ i : Nat, i ≤ p.tables.l.length ∧ iv = .int .i64 i ∧ (∀ j, j < i → tabAtM p j = none) ∧ Below W.heap.size W wr) (fun i _ _ _ _ => p.tables.l.length - (intOf i).toNat)
  case atStart => exact ⟨0, Nat.zero_le _, rfl, fun j hj => absurd hj (Nat.not_lt_zero _), HB1.out⟩
  case round =>
  obtain ⟨i, hi, rfl, hpre, HB⟩ := hrel
  have HPre := Lib.hid hpre
  have hp3 := hp wr HB
  clear hpre HB1
  by_cases hlt : i < p.tables.l.length
  case neg =>
    have e : i = p.tables.l.length := by omega
    replace HR := Lib.hid (HR.out.trans (show _ = none by rw [firstE_none (by rw [← e]; exact HPre.out)]))
    go_wp2
    refine bodyPost_ret (v := .agg #[.int .i64 (0), .int .i64 (0), .int .i64 (0), .int .i64 (0)]) ?_ rfl ?_
    · exact results_cell_row (fn := Tryz.f50) (p := 2) (ty := 44) rfl _ _ (w.heap.size + 1) 44 #[.int .i64 (0), .int .i64 (0), .int .i64 (0), .int .i64 (0)] (0, 0) _ rfl (put_diag (HQ.out _ HB) _ _ _ _) Tryz.underlying44 rfl (by kernel_rfl)
    · exact ⟨by first | (rw [HR.out]; done) | (rw [HR.out]; rfl), put_below (below_step HW.out HB) (Nat.le_succ _) _ _ _ _⟩
  have HF := Lib.hid (HS.out i hlt)
  have HD := Lib.hid (dup_tells (f := TabD.name) hlt)
  have HALi := Lib.hid (fun w' h => HAL.out w' h i hlt)
  have HCk := Lib.hid (fun u hb => HCs.out u hb i hlt)
  clear HCs
  generalize p.tables.l[i] = y at *
  go_wp2_with fail
  refine (HCk.out _ (by first | exact HB | exact below_alloc HB _ | exact below_alloc (below_alloc HB _) _ | exact below_alloc (below_alloc (below_alloc HB _) _) _)).mono ?_
  rintro e w1 ⟨rfl, hbN⟩
  replace HB := below_step (by first | exact HB | exact below_alloc HB _ | exact below_alloc (below_alloc HB _) _ | exact below_alloc (below_alloc (below_alloc HB _) _) _) hbN
  clear hbN
  generalize tabM p y = r at *
  obtain ⟨sb, c⟩ := r
  simp only at HF
  clear hp3
  have hp3 := hp _ HB
  by_cases k1 : c = 0
  case neg =>
    have k1' : (c == 0) = false := beq_eq_false_iff_ne.2 k1
    replace HR := Lib.hid (HR.out.trans (firstE_some hlt HPre.out (HF.out.trans (if_pos k1))))
    clear k1
    go_wp2_with fail
    refine (rat_any c 5 i sb _).mono ?_
    rintro e w2 ⟨rfl, hbN⟩
    replace HB := below_step (by first | exact HB | exact below_alloc HB _ | exact below_alloc (below_alloc HB _) _ | exact below_alloc (below_alloc (below_alloc HB _) _) _) hbN
    clear hbN
    clear hp3
    have hp3 := hp _ HB
    go_wp2
    refine bodyPost_ret (v := .agg #[.int .i64 (c), .int .i64 (5), .int .i64 (i), .int .i64 (sb)]) ?_ rfl ?_
    · exact results_cell_row (fn := Tryz.f50) (p := 2) (ty := 44) rfl _ _ (w.heap.size + 1) 44 #[.int .i64 (c), .int .i64 (5), .int .i64 (i), .int .i64 (sb)] (0, 0) _ rfl (put_diag (HQ.out _ HB) _ _ _ _) Tryz.underlying44 rfl (by kernel_rfl)
    · exact ⟨by first | (rw [HR.out]; done) | (rw [HR.out]; rfl), put_below (below_step HW.out HB) (Nat.le_succ _) _ _ _ _⟩
  subst k1
  replace HF := Lib.hid (HF.out.trans (if_neg (fun h => h rfl)))
  have HB0 := Lib.hid HB
  go_wp2
  clear HB hp3
  go_loopw [6] (fun kv wr => ∃ (k : Nat), k ≤ i ∧ kv = .int .i64 k ∧ Hid (∀ j (hj : j < p.tables.l.length), j < k → p.tables.l[j].name ≠ y.name) ∧ Below W.heap.size W wr) (fun k _ => i - (intOf k).toNat)
  case atStart => exact ⟨0, Nat.zero_le _, rfl, Lib.hid (fun j _ hj => absurd hj (Nat.not_lt_zero _)), HB0.out⟩
  case round =>
  clear HB0
  obtain ⟨k, hk, rfl, HN, HB⟩ := hrel
  have d := (HALi.out _ HB).1
  have hp3 := hp _ HB
  by_cases hki : k < i
  · have hkl : k < p.tables.l.length := by omega
    have hkl' : (k : Int) < (p.tables.l.length : Int) := by omega
    have hil' : (i : Int) < (p.tables.l.length : Int) := by omega
    have e1 := (HAL.out _ HB k hkl).1
    have HY : Hid (p.tables.l[k].name = y.name → dupB (p.tables.l.map TabD.name) i = true) := Lib.hid (fun e => HD.out.1 k hkl hki e)
    have HZ : Hid (p.tables.l[k].name ≠ y.name → ∀ j (hj : j < p.tables.l.length), j < k + 1 → p.tables.l[j].name ≠ y.name) := Lib.hid (fun hne => pre_ne (f := fun _ (a : TabD) => a.name ≠ y.name) HN.out hne)
    generalize p.tables.l[k].name = t at *
    by_cases ht : t = y.name
    · have ht' := toList_true ht
      replace HR := Lib.hid (HR.out.trans (firstE_some hlt HPre.out (HF.out.trans (if_pos (HY.out ht)))))
      clear ht HY HZ
      go_wp2
      go_quiet (fail)
      replace HB := below_drewN HB nq
      go_wp2_with fail
      refine (rat_any 7 5 i 0 _).mono ?_
      rintro e w2 ⟨rfl, hbN⟩
      replace HB := below_step (by first | exact HB | exact below_alloc HB _ | exact below_alloc (below_alloc HB _) _ | exact below_alloc (below_alloc (below_alloc HB _) _) _) hbN
      clear hbN
      clear hp3
      have hp3 := hp _ HB
      go_wp2
      refine bodyPost_ret (v := .agg #[.int .i64 (7), .int .i64 (5), .int .i64 (i), .int .i64 (0)]) ?_ rfl ?_
      · exact results_cell_row (fn := Tryz.f50) (p := 2) (ty := 44) rfl _ _ (w.heap.size + 1) 44 #[.int .i64 (7), .int .i64 (5), .int .i64 (i), .int .i64 (0)] (0, 0) _ rfl (put_diag (HQ.out _ HB) _ _ _ _) Tryz.underlying44 rfl (by kernel_rfl)
      · exact ⟨by first | (rw [HR.out]; done) | (rw [HR.out]; rfl), put_below (below_step HW.out HB) (Nat.le_succ _) _ _ _ _⟩
    · have HZ2 := Lib.hid (HZ.out ht)
      have ht' := toList_false ht
      clear ht HY HZ
      go_wp2
      go_quiet (fail)
      go_wp2
      go_roundw
      case rel => exact ⟨k + 1, by omega, by go_num, HZ2, below_drewN HB _⟩
      case measure => simp [intOf]; omega
  · have e : k = i := by omega
    subst e
    have HP2 := Lib.hid (pre_step HPre.out (HF.out.trans (if_neg (by rw [HD.out.2 HN.out]; simp))))
    go_wp2
    go_roundw
    case rel => exact ⟨k + 1, by omega, by go_num, HP2.out, HB⟩
    case measure => simp [intOf]; omega
end Go.Proofs.YtbfjknidinkafaaGreat
namespace Go.Proofs.YtbfjknidinkafaaGreat
open Go.RowKit

/-- the error of field i, or 0 -/
def fldE (l : List FieldD) (i : Nat) : Int := (fldM l i).getD 0
theorem fldE_none {l : List FieldD} {i : Nat} (h : fldM l i = none) : fldE l i = 0 := by rw [fldE, h]; rfl
theorem fldE_some {l : List FieldD} {i : Nat} {e : Int} (h : fldM l i = some e) : fldE l i = e := by rw [fldE, h]; rfl
theorem fldE_mAt (l : List FieldD) (i : Nat) (hi : i < l.length) : mAt l i = if fldE l i ≠ 0 then some ⟨fldE l i, 2, i, 0⟩ else none := by
  rcases h : fldM l i with _ | e
  · rw [mAt_none h, fldE_none h]; rfl
  · rw [mAt_some h, fldE_some h]
    have hn : e ≠ 0 := by
      rw [fldM_at l i hi] at h
      split at h
      · cases h; decide
      · split at h
        · cases h; decide
        · split at h
          · cases h; decide
          · cases h
    rw [if_pos hn]
set_option maxRecDepth 100000 in
set_option maxHeartbeats 8000000 in
theorem rfield_any (x : L FieldD) (i : Nat) (hi : i < x.l.length) (w : World) (h : LOk w 2 FieldD.cells x) (hn : ∀ f ∈ x.l, f.name.size ≤ maxLen) :
    Calls Tryz.prog 95 #[.slice x.A x.l.length x.c, .int .i64 i] w fun e w' => e = .returned (.int .i64 (fldE x.l i)) ∧ Below w.heap.size w w' := by
  obtain ⟨l, A0, c0⟩ := x
  have HX := Lib.hid h
  have HN := Lib.hid hn
  have hmx : l.length ≤ 9223372036854775807 := h.1
  clear h hn
  simp only at hi HN ⊢
  obtain ⟨g, of, hA, hall⟩ := FieldD.allA HX.out (show 0 < l.length by omega)
  simp only at hA hall
  subst hA
  have HAL := Lib.hid hall
  have HALi := Lib.hid (fun w' h => hall w' h i hi)
  have HF := Lib.hid (fldM_at l i hi)
  have HNk := Lib.hid (HN.out _ (List.getElem_mem hi))
  have HD := Lib.hid (dup_tells (f := FieldD.name) hi)
  have hil : (i : Int) < (l.length : Int) := by omega
  clear hall
  generalize l[i] = y at *
  obtain ⟨yn, yw⟩ := y
  simp only at HALi HF HNk HD
  obtain ⟨d0, d1⟩ := HALi.out w (Below.refl _ _)
  go_enter Tryz.func95, Tryz.ntmps95
  go_wp2_with fail
  refine (risIdent_any yn _ HNk.out).mono ?_
  rintro e w' ⟨rfl, rfl⟩
  cases h1 : identM yn.data.toList
  · have HR := Lib.hid (fldE_some (HF.out.trans (if_pos (show ident yn = false from h1))))
    go_wp2
    go_ret
    exact ⟨by rw [HR.out]; rfl, Below.refl _ _⟩
  have HF1 := Lib.hid (HF.out.trans (if_neg (show ¬ ident yn = false by rw [show ident yn = true from h1]; simp)))
  clear HF h1
  by_cases k1 : yw < 1
  · have HR := Lib.hid (fldE_some (HF1.out.trans (if_pos (okW_not.2 (.inl k1)))))
    go_wp2
    go_ret
    exact ⟨by rw [HR.out]; rfl, Below.refl _ _⟩
  by_cases k2 : 32 < yw
  · have HR := Lib.hid (fldE_some (HF1.out.trans (if_pos (okW_not.2 (.inr k2)))))
    go_wp2
    go_ret
    exact ⟨by rw [HR.out]; rfl, Below.refl _ _⟩
  have HF2 := Lib.hid (HF1.out.trans (if_neg (by rw [okW_iff.2 ⟨by omega, by omega⟩]; simp)))
  clear HF1
  go_wp2
  clear d0 d1
  go_loopw [5] (fun iv wr => ∃ k : Nat, k ≤ i ∧ iv = .int .i64 k ∧ Hid (∀ j (hj : j < l.length), j < k → l[j].name ≠ yn) ∧ Below w.heap.size w wr) (fun k _ => i - (intOf k).toNat)
  case atStart => exact ⟨0, Nat.zero_le _, rfl, Lib.hid (fun j _ hj => absurd hj (Nat.not_lt_zero _)), Below.refl _ _⟩
  case round =>
  obtain ⟨k, hk, rfl, HK, HB⟩ := hrel
  obtain ⟨d0, d1⟩ := HALi.out _ HB
  by_cases hki : k < i
  · have hkl : k < l.length := by omega
    have hkl' : (k : Int) < (l.length : Int) := by omega
    obtain ⟨e0, e1⟩ := HAL.out _ HB k hkl
    have HY : Hid (l[k].name = yn → dupB (l.map FieldD.name) i = true) := Lib.hid (fun e => HD.out.1 k hkl hki e)
    have HZ : Hid (l[k].name ≠ yn → ∀ j (hj : j < l.length), j < k + 1 → l[j].name ≠ yn) := Lib.hid (fun hne => pre_ne (f := fun _ (a : FieldD) => a.name ≠ yn) HK.out hne)
    generalize l[k].name = t at *
    by_cases ht : t = yn
    · have HR := Lib.hid (fldE_some (HF2.out.trans (if_pos (HY.out ht))))
      have ht' := toList_true ht
      clear ht HY HZ
      go_wp2
      go_quiet (fail)
      go_wp2
      go_ret
      exact ⟨by rw [HR.out]; rfl, below_drewN HB _⟩
    · have HZ2 := Lib.hid (HZ.out ht)
      have ht' := toList_false ht
      clear ht HY HZ
      go_wp2
      go_quiet (fail)
      go_wp2
      go_roundw
      case rel => exact ⟨k + 1, by omega, by go_num, HZ2, below_drewN HB _⟩
      case measure => simp [intOf]; omega
  · have e : k = i := by omega
    subst e
    have HR := Lib.hid (fldE_none (HF2.out.trans (if_neg (by rw [HD.out.2 HK.out]; simp))))
    go_wp2
    go_ret
    exact ⟨by rw [HR.out]; rfl, HB⟩

theorem isWant_at {l : List FieldD} {k : Nat} (h : k < l.length) (h3 : k < metaWant.length) : isWant l k = true ↔ l[k] = metaWant[k] := by
  rw [isWant, List.getElem?_eq_getElem h, List.getElem?_eq_getElem h3]
  simp only [Bool.and_eq_true, decide_eq_true_eq]
  constructor
  · rintro ⟨h1, h2⟩
    have : ∀ a b : FieldD, a.name = b.name → a.width = b.width → a = b := by
      rintro ⟨a, b⟩ ⟨c, d⟩ rfl rfl; rfl
    exact this _ _ h1 h2
  · intro e
    rw [e]; exact ⟨rfl, rfl⟩
theorem want_lok (w : World) : LOk (w.alloc (.cells #[.string ⟨#[105, 110]⟩, .int .i64 8, .string ⟨#[111, 117, 116]⟩, .int .i64 8, .string ⟨#[100, 114, 111, 112]⟩, .int .i64 1] 135)) 2 FieldD.cells ⟨metaWant, some ⟨w.heap.size, 0, none⟩, 3⟩ := by
  refine ⟨by unfold maxLen metaWant; simp, .inr ⟨w.heap.size, 0, rfl, by simp, fun i hi j hj => ?_⟩⟩
  have hi3 : i < 3 := hi
  match i, hi3, j, hj with
  | 0, _, 0, _ => simp [metaWant, FieldD.cells]
  | 0, _, 1, _ => simp [metaWant, FieldD.cells]
  | 1, _, 0, _ => simp [metaWant, FieldD.cells]
  | 1, _, 1, _ => simp [metaWant, FieldD.cells]
  | 2, _, 0, _ => simp [metaWant, FieldD.cells]
  | 2, _, 1, _ => simp [metaWant, FieldD.cells]
set_option maxRecDepth 100000 in
set_option maxHeartbeats 16000000 in
theorem rmetadata_any (p : ProgD) (w : World) (o : ProgOk w p) :
    Calls Tryz.prog 47 #[.agg (progCells p)] w fun e w' => e = .returned (dgV (metaM p)) ∧ Below w.heap.size w w' := by
  have HO := Lib.hid o
  have HR := Lib.hid (metaM_eq p)
  obtain ⟨W, hW, hw, HB, hp, hQ⟩ := boxD w p
  have HW := Lib.hid hw
  have HQ := Lib.hid hQ
  have HX := Lib.hid (o.metadata.below hw (Nat.le_refl _))
  have HN : Hid (∀ f ∈ p.metadata.l, f.name.size ≤ maxLen) := Lib.hid o.mnames
  have HS := Lib.hid (fldE_mAt p.metadata.l)
  clear hQ o hw
  simp only [progCells] at hp hW ⊢
  generalize hx : p.metadata = x at *
  clear hx
  obtain ⟨l, A0, c0⟩ := x
  simp only at HR HX hp HN HS ⊢
  have hmx : l.length ≤ 9223372036854775807 := HX.out.1
  by_cases h12 : 12 < l.length
  · replace HR := Lib.hid (HR.out.trans (if_pos h12))
    go_enter Tryz.func47, Tryz.ntmps47
    go_upto_region 1 with fail
    rw [← hW]
    clear hW
    have hp3 := hp W HB
    go_wp2_with fail
    refine (rat_any 12 2 0 0 _).mono ?_
    rintro e w1 ⟨rfl, hbN⟩
    replace HB := below_step (by first | exact HB | exact below_alloc HB _ | exact below_alloc (below_alloc HB _) _ | exact below_alloc (below_alloc (below_alloc HB _) _) _) hbN
    clear hbN
    replace hp3 := hp _ HB
    go_wp2
    refine bodyPost_ret (v := .agg #[.int .i64 (12), .int .i64 (2), .int .i64 (0), .int .i64 (0)]) ?_ rfl ?_
    · exact results_cell_row (fn := Tryz.f47) (p := 2) (ty := 44) rfl _ _ (w.heap.size + 1) 44 #[.int .i64 (12), .int .i64 (2), .int .i64 (0), .int .i64 (0)] (0, 0) _ rfl (put_diag (HQ.out _ HB) _ _ _ _) Tryz.underlying44 rfl (by kernel_rfl)
    · exact ⟨by first | (rw [HR.out]; done) | (rw [HR.out]; rfl), put_below (below_step HW.out HB) (Nat.le_succ _) _ _ _ _⟩
  replace HR := Lib.hid (HR.out.trans (if_neg h12))
  have h12' : l.length ≤ 12 := by omega
  clear h12
  have HB1 := Lib.hid HB
  go_enter Tryz.func47, Tryz.ntmps47
  go_upto_region 1 with fail
  rw [← hW]
  clear hW
  have hp3 := hp W HB
  go_wp2
  clear HB hp3
  go_loopw [3, 4] (fun iv _ wr => ∃ i : Nat, i ≤ l.length ∧ iv = .int .i64 i ∧ (∀ j, j < i → mAt l j = none) ∧ Below W.heap.size W wr) (fun i _ _ => l.length - (intOf i).toNat)
  case atStart => exact ⟨0, Nat.zero_le _, rfl, fun j hj => absurd hj (Nat.not_lt_zero _), HB1.out⟩
  case round =>
  obtain ⟨i, hi, rfl, hpre, HB⟩ := hrel
  have HPre := Lib.hid hpre
  have hp3 := hp wr HB
  clear hpre HB1
  by_cases hlt : i < l.length
  · have HE := Lib.hid (HS.out i hlt)
    have HFk := Lib.hid (fun u (hb : Below W.heap.size W u) => rfield_any ⟨l, A0, c0⟩ i hlt u (HX.out.below hb (Nat.le_refl _)) HN.out)
    have hlt' : (i : Int) < (l.length : Int) := by omega
    simp only at HFk
    go_wp2_with fail
    refine (HFk.out _ (by first | exact HB | exact below_alloc HB _ | exact below_alloc (below_alloc HB _) _ | exact below_alloc (below_alloc (below_alloc HB _) _) _)).mono ?_
    rintro e w1 ⟨rfl, hbN⟩
    replace HB := below_step (by first | exact HB | exact below_alloc HB _ | exact below_alloc (below_alloc HB _) _ | exact below_alloc (below_alloc (below_alloc HB _) _) _) hbN
    clear hbN
    generalize fldE l i = c at *
    clear hp3
    have hp3 := hp _ HB
    by_cases k1 : c = 0
    · subst k1
      have HP2 := Lib.hid (pre_step HPre.out (HE.out.trans (if_neg (fun h => h rfl))))
      go_wp2
      go_roundw
      case rel => exact ⟨i + 1, by omega, by go_num, HP2.out, HB⟩
      case measure => simp [intOf]; omega
    · have k1' : (c == 0) = false := beq_eq_false_iff_ne.2 k1
      replace HR := Lib.hid (HR.out.trans (show _ = some (⟨c, 2, i, 0⟩ : DiagD) by rw [firstE_some hlt HPre.out (HE.out.trans (if_pos k1))]))
      clear k1
      go_wp2_with fail
      refine (rat_any c 2 i 0 _).mono ?_
      rintro e w2 ⟨rfl, hbN⟩
      replace HB := below_step (by first | exact HB | exact below_alloc HB _ | exact below_alloc (below_alloc HB _) _ | exact below_alloc (below_alloc (below_alloc HB _) _) _) hbN
      clear hbN
      clear hp3
      have hp3 := hp _ HB
      go_wp2
      refine bodyPost_ret (v := .agg #[.int .i64 (c), .int .i64 (2), .int .i64 (i), .int .i64 (0)]) ?_ rfl ?_
      · exact results_cell_row (fn := Tryz.f47) (p := 2) (ty := 44) rfl _ _ (w.heap.size + 1) 44 #[.int .i64 (c), .int .i64 (2), .int .i64 (i), .int .i64 (0)] (0, 0) _ rfl (put_diag (HQ.out _ HB) _ _ _ _) Tryz.underlying44 rfl (by kernel_rfl)
      · exact ⟨by first | (rw [HR.out]; done) | (rw [HR.out]; rfl), put_below (below_step HW.out HB) (Nat.le_succ _) _ _ _ _⟩
  have e : i = l.length := by omega
  have HR2 := Lib.hid (HR.out.trans (show _ = firstE 3 (wAt l) by rw [firstE_none (by rw [← e]; exact HPre.out)]))
  clear HR
  have hlt' : ¬ (i : Int) < (l.length : Int) := by omega
  obtain ⟨V, hV⟩ : ∃ V, V = wr.alloc (.cells #[.string ⟨#[105, 110]⟩, .int .i64 8, .string ⟨#[111, 117, 116]⟩, .int .i64 8, .string ⟨#[100, 114, 111, 112]⟩, .int .i64 1] 135) := ⟨_, rfl⟩
  have HBV : Hid (Below W.heap.size W V) := Lib.hid (by rw [hV]; exact below_alloc HB _)
  have HWn : Hid (LOk V 2 FieldD.cells ⟨metaWant, some ⟨wr.heap.size, 0, none⟩, 3⟩) := Lib.hid (by rw [hV]; exact want_lok wr)
  go_wp2
  rw [← hV]
  clear hV HB hp3 HPre HS hlt e hlt'
  generalize wr.heap.size = kv at *
  go_loopw [6] (fun iv wr => ∃ i : Nat, i ≤ 3 ∧ iv = .int .i64 i ∧ (∀ j, j < i → wAt l j = none) ∧ Below V.heap.size V wr) (fun i _ => 3 - (intOf i).toNat)
  case atStart => exact ⟨0, Nat.zero_le _, rfl, fun j hj => absurd hj (Nat.not_lt_zero _), Below.refl _ _⟩
  case round =>
  obtain ⟨k, hk, rfl, hpre, HB2⟩ := hrel
  have HB := below_step HBV.out HB2
  have HPre := Lib.hid hpre
  have hp3 := hp _ HB
  clear hpre
  by_cases hk3 : k < 3
  case neg =>
    have e : k = 3 := by omega
    subst e
    have HR : Hid (metaM p = none) := Lib.hid (HR2.out.trans (firstE_none HPre.out))
    clear hk hk3
    go_wp2
    refine bodyPost_ret (v := .agg #[.int .i64 (0), .int .i64 (0), .int .i64 (0), .int .i64 (0)]) ?_ rfl ?_
    · exact results_cell_row (fn := Tryz.f47) (p := 2) (ty := 44) rfl _ _ (w.heap.size + 1) 44 #[.int .i64 (0), .int .i64 (0), .int .i64 (0), .int .i64 (0)] (0, 0) _ rfl (put_diag (HQ.out _ HB) _ _ _ _) Tryz.underlying44 rfl (by kernel_rfl)
    · exact ⟨by first | (rw [HR.out]; done) | (rw [HR.out]; rfl), put_below (below_step HW.out HB) (Nat.le_succ _) _ _ _ _⟩
  have hk3' : (k : Int) < 3 := by omega
  obtain ⟨gw, ow, hAw, f0, f1⟩ := FieldD.at (HWn.out.below HB2 (Nat.le_refl _)) (show k < metaWant.length from hk3)
  simp only at hAw f0 f1
  obtain ⟨rfl, rfl⟩ : kv = gw ∧ 0 = ow := by cases hAw; exact ⟨rfl, rfl⟩
  clear hAw
  rw [Nat.zero_add] at f0 f1
  by_cases hkl : k < l.length
  case neg =>
    have HR := Lib.hid (HR2.out.trans (firstE_some hk3 HPre.out (wAt_some (want_out (by omega)))))
    have b1 : decide ((l.length : Int) ≤ (k : Int)) = true := decide_eq_true (by omega)
    have b2 : (l.length : Int) ≤ (k : Int) := by omega
    go_wp2
    go_quiet (fail)
    replace HB := below_drewN HB nq
    clear hp3
    generalize World.drewN wr nq = wq at *
    have hp3 := hp _ HB
    go_wp2_with fail
    refine (rat_any 5 2 k 0 _).mono ?_
    rintro e w2 ⟨rfl, hbN⟩
    replace HB := below_step (by first | exact HB | exact below_alloc HB _ | exact below_alloc (below_alloc HB _) _ | exact below_alloc (below_alloc (below_alloc HB _) _) _) hbN
    clear hbN
    clear hp3
    have hp3 := hp _ HB
    go_wp2
    refine bodyPost_ret (v := .agg #[.int .i64 (5), .int .i64 (2), .int .i64 (k), .int .i64 (0)]) ?_ rfl ?_
    · exact results_cell_row (fn := Tryz.f47) (p := 2) (ty := 44) rfl _ _ (w.heap.size + 1) 44 #[.int .i64 (5), .int .i64 (2), .int .i64 (k), .int .i64 (0)] (0, 0) _ rfl (put_diag (HQ.out _ HB) _ _ _ _) Tryz.underlying44 rfl (by kernel_rfl)
    · exact ⟨by first | (rw [HR.out]; done) | (rw [HR.out]; rfl), put_below (below_step HW.out HB) (Nat.le_succ _) _ _ _ _⟩
  obtain ⟨g, of, hA, e0, e1⟩ := FieldD.at (HX.out.below HB (Nat.le_refl _)) hkl
  simp only at hA
  subst hA
  have HI := Lib.hid (isWant_at hkl (show k < metaWant.length from hk3))
  have hkl' : (k : Int) < (l.length : Int) := by omega
  have b1 : decide ((l.length : Int) ≤ (k : Int)) = false := decide_eq_false (by omega)
  simp only at e0 e1
  generalize l[k] = a at *
  generalize metaWant[k]'hk3 = b at *
  obtain ⟨bb, hb0, hbb⟩ := neq_field a b
  have HBB := Lib.hid hb0
  clear hb0
  cases bb with
  | true =>
    have HR := Lib.hid (HR2.out.trans (firstE_some hk3 HPre.out (wAt_some (by
      rw [← Bool.not_eq_true, HI.out]
      intro e
      have := HBB.out.2 e
      cases this))))
    go_wp2
    go_quiet (fail)
    replace HB := below_drewN HB nq
    clear hp3
    generalize World.drewN wr nq = wq at *
    have hp3 := hp _ HB
    go_wp2_with fail
    refine (rat_any 5 2 k 0 _).mono ?_
    rintro e w2 ⟨rfl, hbN⟩
    replace HB := below_step (by first | exact HB | exact below_alloc HB _ | exact below_alloc (below_alloc HB _) _ | exact below_alloc (below_alloc (below_alloc HB _) _) _) hbN
    clear hbN
    clear hp3
    have hp3 := hp _ HB
    go_wp2
    refine bodyPost_ret (v := .agg #[.int .i64 (5), .int .i64 (2), .int .i64 (k), .int .i64 (0)]) ?_ rfl ?_
    · exact results_cell_row (fn := Tryz.f47) (p := 2) (ty := 44) rfl _ _ (w.heap.size + 1) 44 #[.int .i64 (5), .int .i64 (2), .int .i64 (k), .int .i64 (0)] (0, 0) _ rfl (put_diag (HQ.out _ HB) _ _ _ _) Tryz.underlying44 rfl (by kernel_rfl)
    · exact ⟨by first | (rw [HR.out]; done) | (rw [HR.out]; rfl), put_below (below_step HW.out HB) (Nat.le_succ _) _ _ _ _⟩
  | false =>
    have HP2 := Lib.hid (pre_step HPre.out (wAt_none (HI.out.2 (HBB.out.1 rfl))))
    go_wp2
    go_quiet (fail)
    go_wp2
    go_roundw
    case rel => exact ⟨k + 1, by omega, by go_num, HP2.out, below_drewN HB2 _⟩
    case measure => simp [intOf]; omega

theorem flowM_eq (p : ProgD) : flowM p = if (parserM p).2.2 ≠ 0 then some ⟨(parserM p).2.2, 6, (parserM p).1, (parserM p).2.1⟩
  else if (ctlM p).2 ≠ 0 then some ⟨(ctlM p).2, 7, (ctlM p).1, 0⟩
  else if (depM p).2 ≠ 0 then some ⟨(depM p).2, 8, (depM p).1, 0⟩ else none := rfl
set_option maxRecDepth 100000 in
set_option maxHeartbeats 8000000 in
theorem rcode_any (p : ProgD) (w : World) (o : ProgOk w p) (hc : ∀ s ∈ p.states.l, ∀ c ∈ s.cases.l, (Lit.int .u32 c.value).wf = true ∧ (Lit.int .u32 c.mask).wf = true) (hN : (presM p.control.l).length ≤ 90000) :
    Calls Tryz.prog 51 #[.agg (progCells p)] w fun e w' => e = .returned (dgV (flowM p)) ∧ Below w.heap.size w w' := by
  have HO := Lib.hid o
  have HC := Lib.hid hc
  have HN := Lib.hid hN
  have HR := Lib.hid (flowM_eq p)
  obtain ⟨W, hW, hw, HB, hp, hQ⟩ := boxD w p
  have HW := Lib.hid hw
  have HQ := Lib.hid hQ
  have H1 := Lib.hid (fun u (hb : Below W.heap.size W u) => rparserCheck_any p u (HO.out.below (below_step HW.out hb)) HC.out)
  have H2 := Lib.hid (fun u (hb : Below W.heap.size W u) => rcontrolCheck_any p u (HO.out.below (below_step HW.out hb)) HN.out)
  have H3 := Lib.hid (fun u (hb : Below W.heap.size W u) => rdepCheck_any p u (HO.out.below (below_step HW.out hb)))
  clear hQ o hw hc hN
  generalize flowM p = fm at *
  generalize parserM p = r1 at *
  generalize ctlM p = r2 at *
  generalize depM p = r3 at *
  obtain ⟨a1, b1, c1⟩ := r1
  obtain ⟨a2, c2⟩ := r2
  obtain ⟨a3, c3⟩ := r3
  simp only at HR H1 H2 H3
  go_enter Tryz.func51, Tryz.ntmps51
  go_upto_region 1 with fail
  rw [← hW]
  clear hW
  have hp3 := hp W HB
  go_wp2_with fail
  refine (H1.out _ (by first | exact HB | exact below_alloc HB _ | exact below_alloc (below_alloc HB _) _ | exact below_alloc (below_alloc (below_alloc HB _) _) _)).mono ?_
  rintro e w1 ⟨rfl, hbN⟩
  replace HB := below_step (by first | exact HB | exact below_alloc HB _ | exact below_alloc (below_alloc HB _) _ | exact below_alloc (below_alloc (below_alloc HB _) _) _) hbN
  clear hbN
  clear hp3
  have hp3 := hp _ HB
  by_cases k1 : c1 = 0
  case neg =>
    have k1' : (c1 == 0) = false := beq_eq_false_iff_ne.2 k1
    replace HR := Lib.hid (HR.out.trans (if_pos k1))
    clear k1
    go_wp2_with fail
    refine (rat_any c1 6 a1 b1 _).mono ?_
    rintro e w2 ⟨rfl, hbN⟩
    replace HB := below_step (by first | exact HB | exact below_alloc HB _ | exact below_alloc (below_alloc HB _) _ | exact below_alloc (below_alloc (below_alloc HB _) _) _) hbN
    clear hbN
    clear hp3
    have hp3 := hp _ HB
    go_wp2
    refine bodyPost_ret (v := .agg #[.int .i64 (c1), .int .i64 (6), .int .i64 (a1), .int .i64 (b1)]) ?_ rfl ?_
    · exact results_cell_row (fn := Tryz.f51) (p := 2) (ty := 44) rfl _ _ (w.heap.size + 1) 44 #[.int .i64 (c1), .int .i64 (6), .int .i64 (a1), .int .i64 (b1)] (0, 0) _ rfl (put_diag (HQ.out _ HB) _ _ _ _) Tryz.underlying44 rfl (by kernel_rfl)
    · exact ⟨by first | (rw [HR.out]; done) | (rw [HR.out]; rfl), put_below (below_step HW.out HB) (Nat.le_succ _) _ _ _ _⟩
  subst k1
  replace HR := Lib.hid (HR.out.trans (if_neg (fun h => h rfl)))
  go_wp2_with fail
  refine (H2.out _ (by first | exact HB | exact below_alloc HB _ | exact below_alloc (below_alloc HB _) _ | exact below_alloc (below_alloc (below_alloc HB _) _) _)).mono ?_
  rintro e w2 ⟨rfl, hbN⟩
  replace HB := below_step (by first | exact HB | exact below_alloc HB _ | exact below_alloc (below_alloc HB _) _ | exact below_alloc (below_alloc (below_alloc HB _) _) _) hbN
  clear hbN
  clear hp3
  have hp3 := hp _ HB
  by_cases k1 : c2 = 0
  case neg =>
    have k1' : (c2 == 0) = false := beq_eq_false_iff_ne.2 k1
    replace HR := Lib.hid (HR.out.trans (if_pos k1))
    clear k1
    go_wp2_with fail
    refine (rat_any c2 7 a2 0 _).mono ?_
    rintro e w3 ⟨rfl, hbN⟩
    replace HB := below_step (by first | exact HB | exact below_alloc HB _ | exact below_alloc (below_alloc HB _) _ | exact below_alloc (below_alloc (below_alloc HB _) _) _) hbN
    clear hbN
    clear hp3
    have hp3 := hp _ HB
    go_wp2
    refine bodyPost_ret (v := .agg #[.int .i64 (c2), .int .i64 (7), .int .i64 (a2), .int .i64 (0)]) ?_ rfl ?_
    · exact results_cell_row (fn := Tryz.f51) (p := 2) (ty := 44) rfl _ _ (w.heap.size + 1) 44 #[.int .i64 (c2), .int .i64 (7), .int .i64 (a2), .int .i64 (0)] (0, 0) _ rfl (put_diag (HQ.out _ HB) _ _ _ _) Tryz.underlying44 rfl (by kernel_rfl)
    · exact ⟨by first | (rw [HR.out]; done) | (rw [HR.out]; rfl), put_below (below_step HW.out HB) (Nat.le_succ _) _ _ _ _⟩
  subst k1
  replace HR := Lib.hid (HR.out.trans (if_neg (fun h => h rfl)))
  go_wp2_with fail
  refine (H3.out _ (by first | exact HB | exact below_alloc HB _ | exact below_alloc (below_alloc HB _) _ | exact below_alloc (below_alloc (below_alloc HB _) _) _)).mono ?_
  rintro e w3 ⟨rfl, hbN⟩
  replace HB := below_step (by first | exact HB | exact below_alloc HB _ | exact below_alloc (below_alloc HB _) _ | exact below_alloc (below_alloc (below_alloc HB _) _) _) hbN
  clear hbN
  clear hp3
  have hp3 := hp _ HB
  by_cases k1 : c3 = 0
  case neg =>
    have k1' : (c3 == 0) = false := beq_eq_false_iff_ne.2 k1
    replace HR := Lib.hid (HR.out.trans (if_pos k1))
    clear k1
    go_wp2_with fail
    refine (rat_any c3 8 a3 0 _).mono ?_
    rintro e w4 ⟨rfl, hbN⟩
    replace HB := below_step (by first | exact HB | exact below_alloc HB _ | exact below_alloc (below_alloc HB _) _ | exact below_alloc (below_alloc (below_alloc HB _) _) _) hbN
    clear hbN
    clear hp3
    have hp3 := hp _ HB
    go_wp2
    refine bodyPost_ret (v := .agg #[.int .i64 (c3), .int .i64 (8), .int .i64 (a3), .int .i64 (0)]) ?_ rfl ?_
    · exact results_cell_row (fn := Tryz.f51) (p := 2) (ty := 44) rfl _ _ (w.heap.size + 1) 44 #[.int .i64 (c3), .int .i64 (8), .int .i64 (a3), .int .i64 (0)] (0, 0) _ rfl (put_diag (HQ.out _ HB) _ _ _ _) Tryz.underlying44 rfl (by kernel_rfl)
    · exact ⟨by first | (rw [HR.out]; done) | (rw [HR.out]; rfl), put_below (below_step HW.out HB) (Nat.le_succ _) _ _ _ _⟩
  subst k1
  replace HR := Lib.hid (HR.out.trans (if_neg (fun h => h rfl)))
  go_wp2
  refine bodyPost_ret (v := .agg #[.int .i64 (0), .int .i64 (0), .int .i64 (0), .int .i64 (0)]) ?_ rfl ?_
  · exact results_cell_row (fn := Tryz.f51) (p := 2) (ty := 44) rfl _ _ (w.heap.size + 1) 44 #[.int .i64 (0), .int .i64 (0), .int .i64 (0), .int .i64 (0)] (0, 0) _ rfl (put_diag (HQ.out _ HB) _ _ _ _) Tryz.underlying44 rfl (by kernel_rfl)
  · exact ⟨by first | (rw [HR.out]; done) | (rw [HR.out]; rfl), put_below (below_step HW.out HB) (Nat.le_succ _) _ _ _ _⟩
end Go.Proofs.YtbfjknidinkafaaGreat
namespace Go.Proofs.YtbfjknidinkafaaGreat
open Go.RowKit

theorem code_first {f : Nat → Option DiagD} {n : Nat} (h : ∀ k d, k < n → f k = some d → d.code ≠ 0) : ∀ d, firstE n f = some d → d.code ≠ 0 := by
  intro d he
  obtain ⟨i, hi, h1, _⟩ := firstE_ex he
  exact h i d hi h1
theorem code_lim {p : ProgD} : ∀ d, limM p = some d → d.code ≠ 0 := by
  intro d h
  unfold limM at h
  split at h
  · cases h; first | decide | (show (6 : Int) ≠ 0; decide) | (show (7 : Int) ≠ 0; decide) | (show (5 : Int) ≠ 0; decide)
  split at h
  · cases h; first | decide | (show (6 : Int) ≠ 0; decide) | (show (7 : Int) ≠ 0; decide) | (show (5 : Int) ≠ 0; decide)
  split at h
  · cases h; first | decide | (show (6 : Int) ≠ 0; decide) | (show (7 : Int) ≠ 0; decide) | (show (5 : Int) ≠ 0; decide)
  split at h
  · cases h; first | decide | (show (6 : Int) ≠ 0; decide) | (show (7 : Int) ≠ 0; decide) | (show (5 : Int) ≠ 0; decide)
  split at h
  · cases h; first | decide | (show (6 : Int) ≠ 0; decide) | (show (7 : Int) ≠ 0; decide) | (show (5 : Int) ≠ 0; decide)
  cases h
theorem code_hdrs {p : ProgD} : ∀ d, hdrsM p = some d → d.code ≠ 0 := code_first fun k d hk h => by
  rw [hdrAtM_at _ k hk] at h
  split at h
  · cases h; assumption
  split at h
  · cases h; first | decide | (show (6 : Int) ≠ 0; decide) | (show (7 : Int) ≠ 0; decide) | (show (5 : Int) ≠ 0; decide)
  split at h
  · cases h; first | decide | (show (6 : Int) ≠ 0; decide) | (show (7 : Int) ≠ 0; decide) | (show (5 : Int) ≠ 0; decide)
  cases h
theorem code_meta {p : ProgD} : ∀ d, metaM p = some d → d.code ≠ 0 := by
  intro d h
  rw [metaM_eq] at h
  split at h
  · cases h; first | decide | (show (6 : Int) ≠ 0; decide) | (show (7 : Int) ≠ 0; decide) | (show (5 : Int) ≠ 0; decide)
  rcases hf : firstE p.metadata.l.length (mAt p.metadata.l) with _ | x
  · rw [hf] at h
    simp only at h
    refine code_first (f := wAt p.metadata.l) (n := 3) (fun k d hk h => ?_) d h
    unfold wAt at h
    split at h
    · cases h; first | decide | (show (6 : Int) ≠ 0; decide) | (show (7 : Int) ≠ 0; decide) | (show (5 : Int) ≠ 0; decide)
    · cases h
  · rw [hf] at h
    simp only [Option.some.injEq] at h
    subst h
    refine code_first (f := mAt p.metadata.l) (fun k d hk h => ?_) x hf
    rw [fldE_mAt _ k hk] at h
    split at h
    · cases h; assumption
    · cases h
theorem code_regs {p : ProgD} : ∀ d, regsM p = some d → d.code ≠ 0 := code_first fun k d hk h => by
  rw [regAtM_at _ k hk] at h
  split at h
  · cases h; assumption
  split at h
  · cases h; first | decide | (show (6 : Int) ≠ 0; decide) | (show (7 : Int) ≠ 0; decide) | (show (5 : Int) ≠ 0; decide)
  cases h
theorem code_acts {p : ProgD} : ∀ d, actsM p = some d → d.code ≠ 0 := code_first fun k d hk h => by
  rw [actAtM_at _ k hk] at h
  split at h
  · cases h; assumption
  split at h
  · cases h; first | decide | (show (6 : Int) ≠ 0; decide) | (show (7 : Int) ≠ 0; decide) | (show (5 : Int) ≠ 0; decide)
  cases h
theorem code_tabs {p : ProgD} : ∀ d, tabsM p = some d → d.code ≠ 0 := code_first fun k d hk h => by
  rw [tabAtM_at _ k hk] at h
  split at h
  · cases h; assumption
  split at h
  · cases h; first | decide | (show (6 : Int) ≠ 0; decide) | (show (7 : Int) ≠ 0; decide) | (show (5 : Int) ≠ 0; decide)
  cases h
theorem code_flow {p : ProgD} : ∀ d, flowM p = some d → d.code ≠ 0 := by
  intro d h
  rw [flowM_eq] at h
  split at h
  · cases h; assumption
  split at h
  · cases h; assumption
  split at h
  · cases h; assumption
  cases h
/-- what a stage of the check hands on -/
theorem stage {d : Option DiagD} (hc : ∀ x, d = some x → x.code ≠ 0) : ((d.getD noDiag).code = 0 → d = none) ∧ ((d.getD noDiag).code ≠ 0 → d = some (d.getD noDiag)) := by
  rcases d with _ | x
  · exact ⟨fun _ => rfl, fun h => absurd rfl h⟩
  · exact ⟨fun h => absurd h (hc x rfl), fun _ => rfl⟩
theorem blk_facts {w : World} {k : Nat} {t : TypeId} {a b c d : Value} (h : Blk w k t #[a, b, c, d]) :
    w.cell? ⟨k, 0, none⟩ = some a ∧ w.cell? ⟨k, 1, none⟩ = some b ∧ w.cell? ⟨k, 2, none⟩ = some c ∧ w.cell? ⟨k, 3, none⟩ = some d ∧ ∀ i, w.frozen? ⟨k, i, none⟩ = false :=
  ⟨h.cell 0, h.cell 1, h.cell 2, h.cell 3, h.frozen⟩
set_option maxRecDepth 100000 in
set_option maxHeartbeats 16000000 in
theorem rcheck_any (p : ProgD) (w : World) (o : ProgOk w p) (hcp : ProgCap p) (hN : (presM p.control.l).length ≤ 90000) :
    Calls Tryz.prog 15 #[.agg (progCells p)] w fun e w' => e = .returned (dgV (checkM p)) ∧ Below w.heap.size w w' := by
  have HO := Lib.hid o
  have HCp := Lib.hid hcp
  have HN := Lib.hid hN
  have HC := Lib.hid (show checkM p = orE (limM p) (orE (hdrsM p) (orE (metaM p) (orE (regsM p) (orE (actsM p) (orE (tabsM p) (flowM p)))))) from rfl)
  obtain ⟨W, hW, hw, HB, hp, hQ⟩ := boxD w p
  have HW := Lib.hid hw
  have HQ := Lib.hid hQ
  have HS1 := Lib.hid (stage (code_lim (p := p)))
  have HS2 := Lib.hid (stage (code_hdrs (p := p)))
  have HS3 := Lib.hid (stage (code_meta (p := p)))
  have HS4 := Lib.hid (stage (code_regs (p := p)))
  have HS5 := Lib.hid (stage (code_acts (p := p)))
  have HS6 := Lib.hid (stage (code_tabs (p := p)))
  have HS7 := Lib.hid (stage (code_flow (p := p)))
  have HE1 := Lib.hid (fun u (hb : Below W.heap.size W u) => rwhole_any p u (HO.out.below (below_step HW.out hb)))
  have HE2 := Lib.hid (fun u (hb : Below W.heap.size W u) => rheaders_any p u (HO.out.below (below_step HW.out hb)))
  have HE3 := Lib.hid (fun u (hb : Below W.heap.size W u) => rmetadata_any p u (HO.out.below (below_step HW.out hb)))
  have HE4 := Lib.hid (fun u (hb : Below W.heap.size W u) => rregisters_any p u (HO.out.below (below_step HW.out hb)))
  have HE5 := Lib.hid (fun u (hb : Below W.heap.size W u) => ractions_any p u (HO.out.below (below_step HW.out hb)))
  have HE6 := Lib.hid (fun u (hb : Below W.heap.size W u) => rtables_any p u (HO.out.below (below_step HW.out hb)) HCp.out.args)
  have HE7 := Lib.hid (fun u (hb : Below W.heap.size W u) => rcode_any p u (HO.out.below (below_step HW.out hb)) HCp.out.cases HN.out)
  clear hQ o hw hcp hN
  generalize checkM p = cm at *
  generalize limM p = d1 at *
  generalize hdrsM p = d2 at *
  generalize metaM p = d3 at *
  generalize regsM p = d4 at *
  generalize actsM p = d5 at *
  generalize tabsM p = d6 at *
  generalize flowM p = d7 at *
  have HD7 := Lib.hid (show dgV d7 = (d7.getD noDiag).val from rfl)
  unfold dgV at HE1 HE2 HE3 HE4 HE5 HE6 HE7
  generalize d1.getD noDiag = x1 at *
  obtain ⟨c1, q1, i1, s1⟩ := x1
  generalize d2.getD noDiag = x2 at *
  obtain ⟨c2, q2, i2, s2⟩ := x2
  generalize d3.getD noDiag = x3 at *
  obtain ⟨c3, q3, i3, s3⟩ := x3
  generalize d4.getD noDiag = x4 at *
  obtain ⟨c4, q4, i4, s4⟩ := x4
  generalize d5.getD noDiag = x5 at *
  obtain ⟨c5, q5, i5, s5⟩ := x5
  generalize d6.getD noDiag = x6 at *
  obtain ⟨c6, q6, i6, s6⟩ := x6
  generalize d7.getD noDiag = x7 at *
  obtain ⟨c7, q7, i7, s7⟩ := x7
  simp only [DiagD.val] at HS1 HS2 HS3 HS4 HS5 HS6 HS7 HE1 HE2 HE3 HE4 HE5 HE6 HE7 HD7
  go_enter Tryz.func15, Tryz.ntmps15
  go_upto_region 1 with fail
  rw [← hW]
  clear hW
  have hp3 := hp W HB
  go_wp2_with fail
  refine (HE1.out _ (by first | exact HB | exact below_alloc HB _ | exact below_alloc (below_alloc HB _) _ | exact below_alloc (below_alloc (below_alloc HB _) _) _)).mono ?_
  rintro e w1 ⟨rfl, hbN⟩
  replace HB := below_step (by first | exact HB | exact below_alloc HB _ | exact below_alloc (below_alloc HB _) _ | exact below_alloc (below_alloc (below_alloc HB _) _) _) hbN
  clear hbN
  clear hp3
  obtain ⟨V, hV, hVb, hVV, hVc⟩ := box1 w1 #[.int .i64 c1, .int .i64 q1, .int .i64 i1, .int .i64 s1] 44
  have hKb : Blk V w1.heap.size 44 #[.int .i64 c1, .int .i64 q1, .int .i64 i1, .int .i64 s1] := by rw [hV]; exact Blk.new _ _ _
  have HKW := Lib.hid HB.size
  go_upto_region 2 with fail
  rw [← hV]
  replace HB := below_step HB hVb
  clear hV hVb hVV hVc
  generalize w1.heap.size = k at *
  have HK := Lib.hid hKb
  clear hKb
  have hk := blk_facts HK.out
  have hp3 := hp _ HB
  by_cases k1 : c1 = 0
  case neg =>
    have kb : (c1 == 0) = false := beq_eq_false_iff_ne.2 k1
    have HR : Hid (dgV cm = .agg #[.int .i64 c1, .int .i64 q1, .int .i64 i1, .int .i64 s1]) := Lib.hid (by rw [HC.out, HS1.out.2 k1]; rfl)
    clear k1
    go_wp2
    refine bodyPost_ret (v := .agg #[.int .i64 (c1), .int .i64 (q1), .int .i64 (i1), .int .i64 (s1)]) ?_ rfl ?_
    · exact results_cell_row (fn := Tryz.f15) (p := 2) (ty := 44) rfl _ _ (w.heap.size + 1) 44 #[.int .i64 (c1), .int .i64 (q1), .int .i64 (i1), .int .i64 (s1)] (0, 0) _ rfl (put_diag (HQ.out _ HB) _ _ _ _) Tryz.underlying44 rfl (by kernel_rfl)
    · exact ⟨by first | (rw [HR.out]; done) | (rw [HR.out]; rfl), put_below (below_step HW.out HB) (Nat.le_succ _) _ _ _ _⟩
  have e1 := HS1.out.1 k1
  subst e1 k1
  replace HC := Lib.hid (show cm = _ from HC.out)
  go_wp2_with fail
  refine (HE2.out _ HB).mono ?_
  rintro e w2 ⟨rfl, hbN⟩
  have HK2 := HK.out.below hbN HK.out.lt
  replace HB := below_step HB hbN
  clear hbN hk hp3 HK
  have hk := blk_facts HK2
  obtain ⟨V2, hV⟩ : ∃ V, V = ((((w2.setCell ⟨k, 0, none⟩ (.int .i64 c2)).setCell ⟨k, 1, none⟩ (.int .i64 q2)).setCell ⟨k, 2, none⟩ (.int .i64 i2)).setCell ⟨k, 3, none⟩ (.int .i64 s2)) := ⟨_, rfl⟩
  go_upto_region 4 with fail
  rw [← hV]
  have HK : Hid (Blk V2 k 44 #[.int .i64 c2, .int .i64 q2, .int .i64 i2, .int .i64 s2]) := Lib.hid (by rw [hV]; exact put_diag HK2 _ _ _ _)
  replace HB : Below W.heap.size W V2 := by rw [hV]; exact put_below HB HKW.out _ _ _ _
  clear hV hk HK2
  have hk := blk_facts HK.out
  have hp3 := hp _ HB
  by_cases k2 : c2 = 0
  case neg =>
    have kb : (c2 == 0) = false := beq_eq_false_iff_ne.2 k2
    have HR : Hid (dgV cm = .agg #[.int .i64 c2, .int .i64 q2, .int .i64 i2, .int .i64 s2]) := Lib.hid (by rw [HC.out, HS2.out.2 k2]; rfl)
    clear k2
    go_wp2
    refine bodyPost_ret (v := .agg #[.int .i64 (c2), .int .i64 (q2), .int .i64 (i2), .int .i64 (s2)]) ?_ rfl ?_
    · exact results_cell_row (fn := Tryz.f15) (p := 2) (ty := 44) rfl _ _ (w.heap.size + 1) 44 #[.int .i64 (c2), .int .i64 (q2), .int .i64 (i2), .int .i64 (s2)] (0, 0) _ rfl (put_diag (HQ.out _ HB) _ _ _ _) Tryz.underlying44 rfl (by kernel_rfl)
    · exact ⟨by first | (rw [HR.out]; done) | (rw [HR.out]; rfl), put_below (below_step HW.out HB) (Nat.le_succ _) _ _ _ _⟩
  have e2 := HS2.out.1 k2
  subst e2 k2
  replace HC := Lib.hid (show cm = _ from HC.out)
  go_wp2_with fail
  refine (HE3.out _ HB).mono ?_
  rintro e w2 ⟨rfl, hbN⟩
  have HK2 := HK.out.below hbN HK.out.lt
  replace HB := below_step HB hbN
  clear hbN hk hp3 HK
  have hk := blk_facts HK2
  obtain ⟨V3, hV⟩ : ∃ V, V = ((((w2.setCell ⟨k, 0, none⟩ (.int .i64 c3)).setCell ⟨k, 1, none⟩ (.int .i64 q3)).setCell ⟨k, 2, none⟩ (.int .i64 i3)).setCell ⟨k, 3, none⟩ (.int .i64 s3)) := ⟨_, rfl⟩
  go_upto_region 6 with fail
  rw [← hV]
  have HK : Hid (Blk V3 k 44 #[.int .i64 c3, .int .i64 q3, .int .i64 i3, .int .i64 s3]) := Lib.hid (by rw [hV]; exact put_diag HK2 _ _ _ _)
  replace HB : Below W.heap.size W V3 := by rw [hV]; exact put_below HB HKW.out _ _ _ _
  clear hV hk HK2
  have hk := blk_facts HK.out
  have hp3 := hp _ HB
  by_cases k3 : c3 = 0
  case neg =>
    have kb : (c3 == 0) = false := beq_eq_false_iff_ne.2 k3
    have HR : Hid (dgV cm = .agg #[.int .i64 c3, .int .i64 q3, .int .i64 i3, .int .i64 s3]) := Lib.hid (by rw [HC.out, HS3.out.2 k3]; rfl)
    clear k3
    go_wp2
    refine bodyPost_ret (v := .agg #[.int .i64 (c3), .int .i64 (q3), .int .i64 (i3), .int .i64 (s3)]) ?_ rfl ?_
    · exact results_cell_row (fn := Tryz.f15) (p := 2) (ty := 44) rfl _ _ (w.heap.size + 1) 44 #[.int .i64 (c3), .int .i64 (q3), .int .i64 (i3), .int .i64 (s3)] (0, 0) _ rfl (put_diag (HQ.out _ HB) _ _ _ _) Tryz.underlying44 rfl (by kernel_rfl)
    · exact ⟨by first | (rw [HR.out]; done) | (rw [HR.out]; rfl), put_below (below_step HW.out HB) (Nat.le_succ _) _ _ _ _⟩
  have e3 := HS3.out.1 k3
  subst e3 k3
  replace HC := Lib.hid (show cm = _ from HC.out)
  go_wp2_with fail
  refine (HE4.out _ HB).mono ?_
  rintro e w2 ⟨rfl, hbN⟩
  have HK2 := HK.out.below hbN HK.out.lt
  replace HB := below_step HB hbN
  clear hbN hk hp3 HK
  have hk := blk_facts HK2
  obtain ⟨V4, hV⟩ : ∃ V, V = ((((w2.setCell ⟨k, 0, none⟩ (.int .i64 c4)).setCell ⟨k, 1, none⟩ (.int .i64 q4)).setCell ⟨k, 2, none⟩ (.int .i64 i4)).setCell ⟨k, 3, none⟩ (.int .i64 s4)) := ⟨_, rfl⟩
  go_upto_region 8 with fail
  rw [← hV]
  have HK : Hid (Blk V4 k 44 #[.int .i64 c4, .int .i64 q4, .int .i64 i4, .int .i64 s4]) := Lib.hid (by rw [hV]; exact put_diag HK2 _ _ _ _)
  replace HB : Below W.heap.size W V4 := by rw [hV]; exact put_below HB HKW.out _ _ _ _
  clear hV hk HK2
  have hk := blk_facts HK.out
  have hp3 := hp _ HB
  by_cases k4 : c4 = 0
  case neg =>
    have kb : (c4 == 0) = false := beq_eq_false_iff_ne.2 k4
    have HR : Hid (dgV cm = .agg #[.int .i64 c4, .int .i64 q4, .int .i64 i4, .int .i64 s4]) := Lib.hid (by rw [HC.out, HS4.out.2 k4]; rfl)
    clear k4
    go_wp2
    refine bodyPost_ret (v := .agg #[.int .i64 (c4), .int .i64 (q4), .int .i64 (i4), .int .i64 (s4)]) ?_ rfl ?_
    · exact results_cell_row (fn := Tryz.f15) (p := 2) (ty := 44) rfl _ _ (w.heap.size + 1) 44 #[.int .i64 (c4), .int .i64 (q4), .int .i64 (i4), .int .i64 (s4)] (0, 0) _ rfl (put_diag (HQ.out _ HB) _ _ _ _) Tryz.underlying44 rfl (by kernel_rfl)
    · exact ⟨by first | (rw [HR.out]; done) | (rw [HR.out]; rfl), put_below (below_step HW.out HB) (Nat.le_succ _) _ _ _ _⟩
  have e4 := HS4.out.1 k4
  subst e4 k4
  replace HC := Lib.hid (show cm = _ from HC.out)
  go_wp2_with fail
  refine (HE5.out _ HB).mono ?_
  rintro e w2 ⟨rfl, hbN⟩
  have HK2 := HK.out.below hbN HK.out.lt
  replace HB := below_step HB hbN
  clear hbN hk hp3 HK
  have hk := blk_facts HK2
  obtain ⟨V5, hV⟩ : ∃ V, V = ((((w2.setCell ⟨k, 0, none⟩ (.int .i64 c5)).setCell ⟨k, 1, none⟩ (.int .i64 q5)).setCell ⟨k, 2, none⟩ (.int .i64 i5)).setCell ⟨k, 3, none⟩ (.int .i64 s5)) := ⟨_, rfl⟩
  go_upto_region 10 with fail
  rw [← hV]
  have HK : Hid (Blk V5 k 44 #[.int .i64 c5, .int .i64 q5, .int .i64 i5, .int .i64 s5]) := Lib.hid (by rw [hV]; exact put_diag HK2 _ _ _ _)
  replace HB : Below W.heap.size W V5 := by rw [hV]; exact put_below HB HKW.out _ _ _ _
  clear hV hk HK2
  have hk := blk_facts HK.out
  have hp3 := hp _ HB
  by_cases k5 : c5 = 0
  case neg =>
    have kb : (c5 == 0) = false := beq_eq_false_iff_ne.2 k5
    have HR : Hid (dgV cm = .agg #[.int .i64 c5, .int .i64 q5, .int .i64 i5, .int .i64 s5]) := Lib.hid (by rw [HC.out, HS5.out.2 k5]; rfl)
    clear k5
    go_wp2
    refine bodyPost_ret (v := .agg #[.int .i64 (c5), .int .i64 (q5), .int .i64 (i5), .int .i64 (s5)]) ?_ rfl ?_
    · exact results_cell_row (fn := Tryz.f15) (p := 2) (ty := 44) rfl _ _ (w.heap.size + 1) 44 #[.int .i64 (c5), .int .i64 (q5), .int .i64 (i5), .int .i64 (s5)] (0, 0) _ rfl (put_diag (HQ.out _ HB) _ _ _ _) Tryz.underlying44 rfl (by kernel_rfl)
    · exact ⟨by first | (rw [HR.out]; done) | (rw [HR.out]; rfl), put_below (below_step HW.out HB) (Nat.le_succ _) _ _ _ _⟩
  have e5 := HS5.out.1 k5
  subst e5 k5
  replace HC := Lib.hid (show cm = _ from HC.out)
  go_wp2_with fail
  refine (HE6.out _ HB).mono ?_
  rintro e w2 ⟨rfl, hbN⟩
  have HK2 := HK.out.below hbN HK.out.lt
  replace HB := below_step HB hbN
  clear hbN hk hp3 HK
  have hk := blk_facts HK2
  obtain ⟨V6, hV⟩ : ∃ V, V = ((((w2.setCell ⟨k, 0, none⟩ (.int .i64 c6)).setCell ⟨k, 1, none⟩ (.int .i64 q6)).setCell ⟨k, 2, none⟩ (.int .i64 i6)).setCell ⟨k, 3, none⟩ (.int .i64 s6)) := ⟨_, rfl⟩
  go_upto_region 12 with fail
  rw [← hV]
  have HK : Hid (Blk V6 k 44 #[.int .i64 c6, .int .i64 q6, .int .i64 i6, .int .i64 s6]) := Lib.hid (by rw [hV]; exact put_diag HK2 _ _ _ _)
  replace HB : Below W.heap.size W V6 := by rw [hV]; exact put_below HB HKW.out _ _ _ _
  clear hV hk HK2
  have hk := blk_facts HK.out
  have hp3 := hp _ HB
  by_cases k6 : c6 = 0
  case neg =>
    have kb : (c6 == 0) = false := beq_eq_false_iff_ne.2 k6
    have HR : Hid (dgV cm = .agg #[.int .i64 c6, .int .i64 q6, .int .i64 i6, .int .i64 s6]) := Lib.hid (by rw [HC.out, HS6.out.2 k6]; rfl)
    clear k6
    go_wp2
    refine bodyPost_ret (v := .agg #[.int .i64 (c6), .int .i64 (q6), .int .i64 (i6), .int .i64 (s6)]) ?_ rfl ?_
    · exact results_cell_row (fn := Tryz.f15) (p := 2) (ty := 44) rfl _ _ (w.heap.size + 1) 44 #[.int .i64 (c6), .int .i64 (q6), .int .i64 (i6), .int .i64 (s6)] (0, 0) _ rfl (put_diag (HQ.out _ HB) _ _ _ _) Tryz.underlying44 rfl (by kernel_rfl)
    · exact ⟨by first | (rw [HR.out]; done) | (rw [HR.out]; rfl), put_below (below_step HW.out HB) (Nat.le_succ _) _ _ _ _⟩
  have e6 := HS6.out.1 k6
  subst e6 k6
  replace HC := Lib.hid (show cm = _ from HC.out)
  go_wp2_with fail
  refine (HE7.out _ HB).mono ?_
  rintro e w2 ⟨rfl, hbN⟩
  have HK2 := HK.out.below hbN HK.out.lt
  replace HB := below_step HB hbN
  clear hbN hk hp3 HK
  have hk := blk_facts HK2
  obtain ⟨V7, hV⟩ : ∃ V, V = ((((w2.setCell ⟨k, 0, none⟩ (.int .i64 c7)).setCell ⟨k, 1, none⟩ (.int .i64 q7)).setCell ⟨k, 2, none⟩ (.int .i64 i7)).setCell ⟨k, 3, none⟩ (.int .i64 s7)) := ⟨_, rfl⟩
  go_upto_region 14 with fail
  rw [← hV]
  have HK : Hid (Blk V7 k 44 #[.int .i64 c7, .int .i64 q7, .int .i64 i7, .int .i64 s7]) := Lib.hid (by rw [hV]; exact put_diag HK2 _ _ _ _)
  replace HB : Below W.heap.size W V7 := by rw [hV]; exact put_below HB HKW.out _ _ _ _
  clear hV hk HK2
  have hk := blk_facts HK.out
  have hp3 := hp _ HB
  have HR : Hid (dgV cm = .agg #[.int .i64 c7, .int .i64 q7, .int .i64 i7, .int .i64 s7]) := Lib.hid (by rw [HC.out]; exact HD7.out)
  go_wp2
  refine bodyPost_ret (v := .agg #[.int .i64 (c7), .int .i64 (q7), .int .i64 (i7), .int .i64 (s7)]) ?_ rfl ?_
  · exact results_cell_row (fn := Tryz.f15) (p := 2) (ty := 44) rfl _ _ (w.heap.size + 1) 44 #[.int .i64 (c7), .int .i64 (q7), .int .i64 (i7), .int .i64 (s7)] (0, 0) _ rfl (put_diag (HQ.out _ HB) _ _ _ _) Tryz.underlying44 rfl (by kernel_rfl)
  · exact ⟨by first | (rw [HR.out]; done) | (rw [HR.out]; rfl), put_below (below_step HW.out HB) (Nat.le_succ _) _ _ _ _⟩
end Go.Proofs.YtbfjknidinkafaaGreat
