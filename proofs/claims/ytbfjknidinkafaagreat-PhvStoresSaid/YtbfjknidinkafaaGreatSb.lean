/- The walk of package control's Check on any program. No condition but that the program lies in memory, with at most ninety thousand nodes. -/
import Derived.Test.YtbfjknidinkafaaGreatSa
import Derived.BigQuiet
import Derived.Maps.OwnSet
import Derived.Laws.Cover1
namespace Go.Proofs.YtbfjknidinkafaaGreat
open Go.RowKit
set_option maxRecDepth 100000
set_option maxHeartbeats 16000000
theorem arity_any (op : Int) (w : World) : Calls Tryz.prog 216 #[.int .i64 op] w fun e w' => e = .returned (.int .i64 (arityM op)) ∧ w = w' := by
  by_cases h : 1 ≤ op ∧ op ≤ 17
  · have hd : op = 1 ∨ op = 2 ∨ op = 3 ∨ op = 4 ∨ op = 5 ∨ op = 6 ∨ op = 7 ∨ op = 8 ∨ op = 9 ∨ op = 10 ∨ op = 11 ∨ op = 12 ∨ op = 13 ∨ op = 14 ∨ op = 15 ∨ op = 16 ∨ op = 17 := by omega
    rcases hd with rfl | rfl | rfl | rfl | rfl | rfl | rfl | rfl | rfl | rfl | rfl | rfl | rfl | rfl | rfl | rfl | rfl
    all_goals
      go_enter Tryz.func216, Tryz.ntmps216
      go_wp2
      go_ret
      exact ⟨rfl, rfl⟩
  · have HR := hi_ (show arityM op = -1 by unfold arityM; repeat' split <;> omega)
    have hn : ∀ k : Int, 1 ≤ k → k ≤ 17 → (op == k) = false := fun k h1 h2 => beq_eq_false_iff_ne.2 (by omega)
    have n1 := hn 1 (by decide) (by decide)
    have n2 := hn 2 (by decide) (by decide)
    have n3 := hn 3 (by decide) (by decide)
    have n4 := hn 4 (by decide) (by decide)
    have n5 := hn 5 (by decide) (by decide)
    have n6 := hn 6 (by decide) (by decide)
    have n7 := hn 7 (by decide) (by decide)
    have n8 := hn 8 (by decide) (by decide)
    have n9 := hn 9 (by decide) (by decide)
    have n10 := hn 10 (by decide) (by decide)
    have n11 := hn 11 (by decide) (by decide)
    have n12 := hn 12 (by decide) (by decide)
    have n13 := hn 13 (by decide) (by decide)
    have n14 := hn 14 (by decide) (by decide)
    have n15 := hn 15 (by decide) (by decide)
    have n16 := hn 16 (by decide) (by decide)
    have n17 := hn 17 (by decide) (by decide)
    clear h hn
    go_enter Tryz.func216, Tryz.ntmps216
    go_wp2
    go_ret
    exact ⟨by rw [HR.out]; rfl, rfl⟩
theorem wideM_ok {n : Int} (h : okW n = true) : wideM n = (n, 0) := if_pos h
theorem wideM_bad {n : Int} (h : okW n = false) : wideM n = (0, 10) := if_neg (by rw [h]; simp)
theorem okW_iff {n : Int} : okW n = true ↔ 1 ≤ n ∧ n ≤ 32 := by simp [okW]
theorem okW_not {n : Int} : okW n = false ↔ n < 1 ∨ 32 < n := by
  rw [← Bool.not_eq_true, okW_iff]; omega
theorem wide_any (n : Int) (w : World) : Calls Tryz.prog 220 #[.int .i64 n] w fun e w' => e = .returned (.tuple #[.int .i64 (wideM n).1, .int .i64 (wideM n).2]) ∧ w = w' := by
  cases h : okW n
  · have HR := hi_ (wideM_bad h)
    have h' := okW_not.1 h
    rcases h' with h1 | h1
    all_goals
      go_enter Tryz.func220, Tryz.ntmps220
      go_wp2
      go_ret2
      exact ⟨by rw [HR.out]; rfl, rfl⟩
  · have HR := hi_ (wideM_ok h)
    obtain ⟨h1, h2⟩ := okW_iff.1 h
    go_enter Tryz.func220, Tryz.ntmps220
    go_wp2
    go_ret2
    exact ⟨by rw [HR.out]; rfl, rfl⟩
@[reducible] def scopeCells (p : ProgD) (ps : L FieldD) : Array Value := #[.string p.name, .slice p.headers.A p.headers.l.length p.headers.c, .slice p.metadata.A p.metadata.l.length p.metadata.c,
  .slice p.registers.A p.registers.l.length p.registers.c, .slice p.actions.A p.actions.l.length p.actions.c, .slice p.tables.A p.tables.l.length p.tables.c,
  .slice p.states.A p.states.l.length p.states.c, .slice p.control.A p.control.l.length p.control.c, .slice p.deparser.A p.deparser.l.length p.deparser.c, .slice ps.A ps.l.length ps.c]
theorem fieldsOf_cases (p : ProgD) (h : Int) : (h = -1 ∧ fieldsOf p h = some p.metadata) ∨ (h ≠ -1 ∧ (h < 0 ∨ (p.headers.l.length : Int) ≤ h) ∧ fieldsOf p h = none) ∨
    ∃ k : Nat, ∃ hk : k < p.headers.l.length, h = k ∧ fieldsOf p h = some p.headers.l[k].fields := by
  by_cases h1 : h = -1
  · exact .inl ⟨h1, by rw [fieldsOf, if_pos h1]⟩
  · by_cases h2 : h < 0
    · exact .inr (.inl ⟨h1, .inl h2, by rw [fieldsOf, if_neg h1, if_pos h2]⟩)
    · obtain ⟨k, rfl⟩ : ∃ k : Nat, h = k := ⟨h.toNat, by omega⟩
      by_cases h3 : k < p.headers.l.length
      · exact .inr (.inr ⟨k, h3, rfl, by rw [fieldsOf, if_neg h1, if_neg h2]; simp [h3]⟩)
      · exact .inr (.inl ⟨h1, .inr (by omega), by rw [fieldsOf, if_neg h1, if_neg h2]; simp [List.getElem?_eq_none (Nat.le_of_not_lt h3)]⟩)
theorem declF_cases {p : ProgD} {h : Int} {x : L FieldD} (hx : fieldsOf p h = some x) (f : Int) : ((f < 0 ∨ (x.l.length : Int) ≤ f) ∧ declF p h f = none) ∨ ∃ k : Nat, ∃ hk : k < x.l.length, f = k ∧ declF p h f = some x.l[k] := by
  by_cases h1 : f < 0
  · exact .inl ⟨.inl h1, by rw [declF, hx]; exact if_pos h1⟩
  · obtain ⟨k, rfl⟩ : ∃ k : Nat, f = k := ⟨f.toNat, by omega⟩
    by_cases h2 : k < x.l.length
    · exact .inr ⟨k, h2, rfl, by rw [declF, hx]; simp [h1, h2]⟩
    · exact .inl ⟨.inr (by omega), by rw [declF, hx]; simp [h1, List.getElem?_eq_none (Nat.le_of_not_lt h2)]⟩
theorem declF_none {p : ProgD} {h : Int} (hx : fieldsOf p h = none) (f : Int) : declF p h f = none := by rw [declF, hx]
def foundV (d : Option FieldD) : Value := .tuple #[.agg #[.string (d.getD noField).name, .int .i64 (d.getD noField).width], .bool d.isSome]
theorem sfield_any (p : ProgD) (ps : L FieldD) (h f : Int) (w : World) (o : ProgOk w p) :
    Calls Tryz.prog 221 #[.agg (scopeCells p ps), .int .i64 h, .int .i64 f] w fun e w' => e = .returned (foundV (declF p h f)) ∧ Below w.heap.size w w' := by
  have HO := hi_ o
  clear o
  have hca := @World.cell?_alloc_some
  rcases fieldsOf_cases p h with ⟨rfl, hx⟩ | ⟨h1, h2, hx⟩ | ⟨k, hk, rfl, hx⟩
  · rcases declF_cases hx f with ⟨h3, hd⟩ | ⟨j, hj, rfl, hd⟩
    · have HR := hi_ hd
      clear hd hx
      rcases h3 with h3 | h3
      all_goals
        go_enter Tryz.func221, Tryz.ntmps221
        go_wp2
        refine bodyPost_ret (v := foundV none) (by simp [results, Tryz.results221, go_sem, foundV, noField]) rfl ⟨by rw [HR.out], below2 _ _ _⟩
    · have HR := hi_ hd
      obtain ⟨g, of, hA, d0, d1⟩ := FieldD.at HO.out.metadata hj
      simp only [scopeCells, hA]
      clear hd hx hA
      generalize p.metadata.l[j] = y at *
      go_enter Tryz.func221, Tryz.ntmps221
      go_wp2
      refine bodyPost_ret (v := foundV (some y)) (by simp [results, Tryz.results221, go_sem, foundV]) rfl ⟨by rw [HR.out], below2 _ _ _⟩
  · have HR := hi_ (declF_none hx f)
    have h1' : (h == -1) = false := beq_eq_false_iff_ne.2 h1
    clear hx
    rcases h2 with h2 | h2
    all_goals
      go_enter Tryz.func221, Tryz.ntmps221
      go_wp2
      refine bodyPost_ret (v := foundV none) (by simp [results, Tryz.results221, go_sem, foundV, noField]) rfl ⟨by rw [HR.out], below2 _ _ _⟩
  · obtain ⟨g, of, hA, d0, d1⟩ := HeaderD.at HO.out.headers hk
    have HF := hi_ (HO.out.hdr _ (List.getElem_mem hk)).fields
    have h1' : ((k : Int) == -1) = false := beq_eq_false_iff_ne.2 (by omega)
    simp only [scopeCells, hA]
    clear hA
    generalize p.headers.l[k] = x at *
    obtain ⟨xn, ⟨fl, fA, fc⟩⟩ := x
    simp only [L.v] at d1
    rcases declF_cases hx f with ⟨h3, hd⟩ | ⟨j, hj, rfl, hd⟩
    · have HR := hi_ hd
      simp only at h3
      clear hd hx
      rcases h3 with h3 | h3
      all_goals
        go_enter Tryz.func221, Tryz.ntmps221
        go_wp2
        refine bodyPost_ret (v := foundV none) (by simp [results, Tryz.results221, go_sem, foundV, noField]) rfl ⟨by rw [HR.out], below2 _ _ _⟩
    · have HR := hi_ hd
      obtain ⟨g2, of2, hA, e0, e1⟩ := FieldD.at HF.out hj
      simp only at hA hj e0 e1
      subst hA
      clear hd hx
      generalize fl[j] = y at *
      go_enter Tryz.func221, Tryz.ntmps221
      go_wp2
      refine bodyPost_ret (v := foundV (some y)) (by simp [results, Tryz.results221, go_sem, foundV]) rfl ⟨by rw [HR.out], below2 _ _ _⟩
theorem maskM_lt (n : Int) : (maskM n : Int) ≤ 4294967295 := by
  unfold maskM
  split
  · have h := okW_iff.1 (by assumption)
    have h2 : 2 ^ n.toNat ≤ 2 ^ 32 := Nat.pow_le_pow_right (by omega) (by omega)
    omega
  · simp
theorem ret_pp {a b : Int} {r : Int × Int} (h : r = (a, b)) : Ending.returned (.tuple #[.int .i64 a, .int .i64 b]) = .returned (.tuple #[.int .i64 r.1, .int .i64 r.2]) := by rw [h]
theorem primary_any (p : ProgD) (ps : L FieldD) (op n wd : Int) (w : World) (o : ProgOk w p) (hps : LOk w 2 FieldD.cells ps) :
    Calls Tryz.prog 217 #[.agg (scopeCells p ps), .agg #[.int .i64 op, .int .i64 n, .int .i64 wd]] w fun e w' =>
      e = .returned (.tuple #[.int .i64 (primM p ps.l ⟨op, n, wd⟩).1, .int .i64 (primM p ps.l ⟨op, n, wd⟩).2]) ∧ Below w.heap.size w w' := by
  have HO := hi_ o
  have HP := hi_ hps
  clear o hps
  obtain ⟨W, hW, hw, HB, hp⟩ := box2 w (scopeCells p ps) 217 #[.int .i64 op, .int .i64 n, .int .i64 wd] 252
  have HW := hi_ hw
  clear hw
  have HR := hi_ (primM.eq_1 p ps.l ⟨op, n, wd⟩)
  by_cases k1 : op = 1
  · subst k1
    replace HR := hi_ (HR.out.trans (if_pos rfl))
    have hm := maskM_lt wd
    have hwr : IntKind.i64.wrap (maskM wd : Int) = (maskM wd : Int) := IntWalk.i64_in _ (by omega)
    go_enter Tryz.func217, Tryz.ntmps217
    go_wp2_with fail
    rw [← hW]
    clear hW
    refine (wide_any wd _).mono ?_
    rintro e w' ⟨rfl, rfl⟩
    cases hv : okW wd
    · replace HR := hi_ (HR.out.trans (if_neg (show ¬ okW wd = true by rw [hv]; simp)))
      rw [wideM_bad hv]
      go_wp2
      go_quiet (fail)
      go_wp2
      go_ret2
      exact ⟨ret_pp HR.out, below_step HW.out (below_drewN HB _)⟩
    · replace HR := hi_ (HR.out.trans (if_pos hv))
      rw [wideM_ok hv]
      by_cases k2 : n < 0
      · replace HR := hi_ (HR.out.trans (if_pos (.inl k2)))
        have k2' : decide (n < 0) = true := decide_eq_true k2
        go_wp2
        go_quiet (fail)
        go_wp2
        go_ret2
        exact ⟨ret_pp HR.out, below_step HW.out (below_drewN HB _)⟩
      · have k2' : decide (n < 0) = false := decide_eq_false k2
        by_cases k3 : (maskM wd : Int) < n
        all_goals
          first
            | replace HR := hi_ (HR.out.trans (if_pos (Or.inr k3)))
            | replace HR := hi_ (HR.out.trans (if_neg (show ¬ (n < 0 ∨ (maskM wd : Int) < n) from fun h => h.elim k2 k3)))
          have H0 := hi_ HB
          clear HB
          go_wp2
          go_region_held3 (fun w' => Below W.heap.size W w') (first | exact H0.out | exact below_drew H0.out | (exact below_step (by assumption) (by assumption)) | assumption)
            (first | (go_at_call 110; refine (mask_any wd _).mono ?_; rintro e w1 ⟨rfl, hb1⟩))
          have HB5 : Hid (Below W.heap.size W _) := hi_ (by assumption)
          have HB := HB5.out
          go_wp2
          go_ret2
          exact ⟨ret_pp HR.out, below_step HW.out HB⟩
  replace HR := hi_ (HR.out.trans (if_neg k1))
  have k1' : (op == 1) = false := beq_eq_false_iff_ne.2 k1
  by_cases k2 : op = 2
  · subst k2
    replace HR := hi_ (HR.out.trans (if_pos rfl))
    have hca := @World.cell?_alloc_some
    go_enter Tryz.func217, Tryz.ntmps217
    go_wp2_with fail
    rw [← hW]
    clear hW
    refine (sfield_any p ps n wd _ (HO.out.below (below_step HW.out (by first | exact HB | exact below_alloc HB _ | exact ba2 HB | exact ba3 HB)))).mono ?_
    rintro e w1 ⟨rfl, hbN⟩
    replace HB := below_step (by first | exact HB | exact below_alloc HB _ | exact ba2 HB | exact ba3 HB) hbN
    clear hbN
    rcases hd : declF p n wd with _ | y
    · simp only [declM, hd, Option.map_none] at HR
      simp only [foundV, Option.getD_none, Option.isSome_none]
      go_wp2
      go_ret2
      exact ⟨ret_pp HR.out, below_step HW.out (by first | exact HB | exact below_alloc HB _ | exact ba2 HB | exact ba3 HB)⟩
    · simp only [declM, hd, Option.map_some] at HR
      simp only [foundV, Option.getD_some, Option.isSome_some]
      go_wp2_with fail
      refine (wide_any y.width _).mono ?_
      rintro e w' ⟨rfl, rfl⟩
      go_wp2
      go_ret2
      exact ⟨ret_pp HR.out, below_step HW.out (by first | exact HB | exact below_alloc HB _ | exact ba2 HB | exact ba3 HB)⟩
  replace HR := hi_ (HR.out.trans (if_neg k2))
  have k2' : (op == 2) = false := beq_eq_false_iff_ne.2 k2
  by_cases k3 : op = 3
  · subst k3
    replace HR := hi_ (HR.out.trans (if_pos rfl))
    by_cases k4 : n < 0
    · replace HR := hi_ (HR.out.trans (if_pos k4))
      go_enter Tryz.func217, Tryz.ntmps217
      go_wp2
      rw [← hW]
      go_ret2
      exact ⟨ret_pp HR.out, below_step HW.out HB⟩
    · replace HR := hi_ (HR.out.trans (if_neg k4))
      obtain ⟨k, rfl⟩ : ∃ k : Nat, n = k := ⟨n.toNat, by omega⟩
      by_cases k5 : k < ps.l.length
      · obtain ⟨g, of, hA, hq⟩ := FieldD.atA (HP.out.below HW.out (Nat.le_refl _)) k5
        have HR2 := hi_ (show primM p ps.l ⟨3, k, wd⟩ = wideM (ps.l[k]).width by rw [HR.out]; simp [k5])
        simp only [scopeCells, hA] at hW hp ⊢
        generalize ps.l[k] = y at *
        go_enter Tryz.func217, Tryz.ntmps217
        go_upto_region 1 with fail
        rw [← hW]
        clear hW
        go_wp2_with fail
        refine (wide_any y.width _).mono ?_
        rintro e w' ⟨rfl, rfl⟩
        go_wp2
        go_ret2
        exact ⟨ret_pp HR2.out, below_step HW.out HB⟩
      · have HR2 := hi_ (show primM p ps.l ⟨3, k, wd⟩ = (0, 8) by rw [HR.out]; simp [List.getElem?_eq_none (Nat.le_of_not_lt k5)])
        go_enter Tryz.func217, Tryz.ntmps217
        go_wp2
        rw [← hW]
        go_ret2
        exact ⟨ret_pp HR2.out, below_step HW.out HB⟩
  replace HR := hi_ (HR.out.trans (if_neg k3))
  have k3' : (op == 3) = false := beq_eq_false_iff_ne.2 k3
  by_cases k4 : n < 0 ∨ (p.headers.l.length : Int) ≤ n
  · replace HR := hi_ (HR.out.trans (if_pos k4))
    rcases k4 with k4 | k4
    all_goals
      go_enter Tryz.func217, Tryz.ntmps217
      go_wp2
      rw [← hW]
      go_ret2
      exact ⟨ret_pp HR.out, below_step HW.out HB⟩
  · replace HR := hi_ (HR.out.trans (if_neg k4))
    go_enter Tryz.func217, Tryz.ntmps217
    go_wp2
    rw [← hW]
    go_ret2
    exact ⟨ret_pp HR.out, below_step HW.out HB⟩
theorem combine_any (op n wd a b c : Int) (w : World) (h1 : 5 ≤ op) (h2 : op ≤ 17) (ha : 0 ≤ a ∧ a ≤ 32) (hb : 0 ≤ b ∧ b ≤ 32) :
    Calls Tryz.prog 218 #[.agg #[.int .i64 op, .int .i64 n, .int .i64 wd], .agg #[.int .i64 a, .int .i64 b, .int .i64 c]] w fun e w' =>
      e = .returned (.tuple #[.int .i64 (combM ⟨op, n, wd⟩ a b c).1, .int .i64 (combM ⟨op, n, wd⟩ a b c).2]) ∧ Below w.heap.size w w' := by
  obtain ⟨ha1, ha2⟩ := ha
  obtain ⟨hb1, hb2⟩ := hb
  have hd : op = 5 ∨ (op = 6 ∨ op = 7) ∨ op = 8 ∨ op = 14 ∨ op = 17 ∨ (op = 9 ∨ op = 10 ∨ op = 11 ∨ op = 12 ∨ op = 13) ∨ op = 15 ∨ op = 16 := by omega
  clear h1 h2
  rcases hd with rfl | h | rfl | rfl | rfl | h | h
  · have HR : Hid (combM ⟨5, n, wd⟩ a b c = (a, 0)) := hi_ (by simp [combM, arityM])
    go_enter Tryz.func218, Tryz.ntmps218
    go_wp2_with fail
    refine (arity_any _ _).mono ?_
    rintro e w' ⟨rfl, rfl⟩
    rw [show arityM 5 = 1 from rfl]
    go_wp2
    go_ret2
    exact ⟨ret_pp HR.out, below2 _ _ _⟩
  · by_cases k : n < 0 ∨ 31 < n
    · have HR : Hid (combM ⟨op, n, wd⟩ a b c = (0, 9)) := hi_ (by simp [combM, h, k])
      rcases h with rfl | rfl
      all_goals
        rcases k with k | k
        all_goals
          go_enter Tryz.func218, Tryz.ntmps218
          go_wp2
          go_ret2
          exact ⟨ret_pp HR.out, below2 _ _ _⟩
    · have HR : Hid (combM ⟨op, n, wd⟩ a b c = (a, 0)) := hi_ (by simp [combM, h, k])
      obtain ⟨k1, k2⟩ : 0 ≤ n ∧ n ≤ 31 := by omega
      clear k
      rcases h with rfl | rfl
      all_goals
        go_enter Tryz.func218, Tryz.ntmps218
        go_wp2_with fail
        refine (arity_any _ _).mono ?_
        rintro e w' ⟨rfl, rfl⟩
        first | rw [show arityM 6 = 1 from rfl] | rw [show arityM 7 = 1 from rfl]
        go_wp2
        go_ret2
        exact ⟨ret_pp HR.out, below2 _ _ _⟩
  · by_cases k : n < 0
    · have HR : Hid (combM ⟨8, n, wd⟩ a b c = (0, 9)) := hi_ (by simp [combM, k])
      go_enter Tryz.func218, Tryz.ntmps218
      go_wp2
      go_ret2
      exact ⟨ret_pp HR.out, below2 _ _ _⟩
    · cases hv : okW wd
      · have HR : Hid (combM ⟨8, n, wd⟩ a b c = (0, 10)) := hi_ (by simp [combM, k, hv])
        go_enter Tryz.func218, Tryz.ntmps218
        go_wp2_with fail
        refine (wide_any _ _).mono ?_
        rintro e w' ⟨rfl, rfl⟩
        rw [wideM_bad hv]
        go_wp2
        go_ret2
        exact ⟨ret_pp HR.out, below2 _ _ _⟩
      · obtain ⟨w1, w2⟩ := okW_iff.1 hv
        by_cases k2 : a - wd < n
        · have HR : Hid (combM ⟨8, n, wd⟩ a b c = (0, 10)) := hi_ (by simp [combM, k, k2])
          go_enter Tryz.func218, Tryz.ntmps218
          go_wp2_with fail
          refine (wide_any _ _).mono ?_
          rintro e w' ⟨rfl, rfl⟩
          rw [wideM_ok hv]
          go_wp2
          go_ret2
          exact ⟨ret_pp HR.out, below2 _ _ _⟩
        · have HR : Hid (combM ⟨8, n, wd⟩ a b c = (wd, 0)) := hi_ (by simp [combM, k, k2, hv])
          go_enter Tryz.func218, Tryz.ntmps218
          go_wp2_with fail
          refine (wide_any _ _).mono ?_
          rintro e w' ⟨rfl, rfl⟩
          rw [wideM_ok hv]
          go_wp2
          go_ret2
          exact ⟨ret_pp HR.out, below2 _ _ _⟩
  · have HR : Hid (combM ⟨14, n, wd⟩ a b c = wideM (a + b)) := hi_ (by simp [combM])
    go_enter Tryz.func218, Tryz.ntmps218
    go_wp2_with fail
    refine (wide_any _ _).mono ?_
    rintro e w' ⟨rfl, rfl⟩
    go_wp2
    go_ret2
    exact ⟨ret_pp HR.out, below2 _ _ _⟩
  · by_cases k : a = 1
    · by_cases k2 : b = c
      · have HR : Hid (combM ⟨17, n, wd⟩ a b c = (b, 0)) := hi_ (by simp [combM, k, k2])
        subst k k2
        go_enter Tryz.func218, Tryz.ntmps218
        go_wp2
        go_ret2
        exact ⟨ret_pp HR.out, below2 _ _ _⟩
      · have HR : Hid (combM ⟨17, n, wd⟩ a b c = (0, 10)) := hi_ (by simp [combM, k, k2])
        have k2' : (b == c) = false := beq_eq_false_iff_ne.2 k2
        subst k
        go_enter Tryz.func218, Tryz.ntmps218
        go_wp2
        go_ret2
        exact ⟨ret_pp HR.out, below2 _ _ _⟩
    · have HR : Hid (combM ⟨17, n, wd⟩ a b c = (0, 10)) := hi_ (by simp [combM, k])
      have k' : (a == 1) = false := beq_eq_false_iff_ne.2 k
      go_enter Tryz.func218, Tryz.ntmps218
      go_wp2
      go_ret2
      exact ⟨ret_pp HR.out, below2 _ _ _⟩
  · have ho : arityM op = 2 := by unfold arityM; repeat' split <;> omega
    have h' : op ≠ 6 ∧ op ≠ 7 ∧ op ≠ 8 ∧ op ≠ 14 ∧ op ≠ 17 ∧ op ≠ 15 ∧ op ≠ 16 := by omega
    obtain ⟨n6, n7, n8, n14, n17, n15, n16⟩ := h'
    by_cases k : a = b
    · have HR : Hid (combM ⟨op, n, wd⟩ a b c = (a, 0)) := hi_ (by simp [combM, n6, n7, n8, n14, n17, n15, n16, k])
      clear n6 n7 n8 n14 n17 n15 n16
      subst k
      rcases h with rfl | rfl | rfl | rfl | rfl
      all_goals
        go_enter Tryz.func218, Tryz.ntmps218
        go_wp2_with fail
        refine (arity_any _ _).mono ?_
        rintro e w' ⟨rfl, rfl⟩
        rw [ho]
        go_wp2
        go_ret2
        exact ⟨ret_pp HR.out, below2 _ _ _⟩
    · have HR : Hid (combM ⟨op, n, wd⟩ a b c = (0, 10)) := hi_ (by simp [combM, n6, n7, n8, n14, n17, ho, k])
      have k' : (a == b) = false := beq_eq_false_iff_ne.2 k
      clear n6 n7 n8 n14 n17 n15 n16
      rcases h with rfl | rfl | rfl | rfl | rfl
      all_goals
        go_enter Tryz.func218, Tryz.ntmps218
        go_wp2_with fail
        refine (arity_any _ _).mono ?_
        rintro e w' ⟨rfl, rfl⟩
        rw [ho]
        go_wp2
        go_ret2
        exact ⟨ret_pp HR.out, below2 _ _ _⟩
  · have ho : arityM op = 2 := by unfold arityM; repeat' split <;> omega
    have h' : op ≠ 6 ∧ op ≠ 7 ∧ op ≠ 8 ∧ op ≠ 14 ∧ op ≠ 17 := by omega
    obtain ⟨n6, n7, n8, n14, n17⟩ := h'
    by_cases k : a = b
    · have HR : Hid (combM ⟨op, n, wd⟩ a b c = (1, 0)) := hi_ (by simp [combM, n6, n7, n8, n14, n17, h, k])
      clear n6 n7 n8 n14 n17
      subst k
      rcases h with rfl | rfl
      all_goals
        go_enter Tryz.func218, Tryz.ntmps218
        go_wp2_with fail
        refine (arity_any _ _).mono ?_
        rintro e w' ⟨rfl, rfl⟩
        rw [ho]
        go_wp2
        go_ret2
        exact ⟨ret_pp HR.out, below2 _ _ _⟩
    · have HR : Hid (combM ⟨op, n, wd⟩ a b c = (0, 10)) := hi_ (by simp [combM, n6, n7, n8, n14, n17, ho, k])
      have k' : (a == b) = false := beq_eq_false_iff_ne.2 k
      clear n6 n7 n8 n14 n17
      rcases h with rfl | rfl
      all_goals
        go_enter Tryz.func218, Tryz.ntmps218
        go_wp2_with fail
        refine (arity_any _ _).mono ?_
        rintro e w' ⟨rfl, rfl⟩
        rw [ho]
        go_wp2
        go_ret2
        exact ⟨ret_pp HR.out, below2 _ _ _⟩
theorem wideM_fine (n : Int) (h : (wideM n).2 = 0) : 1 ≤ (wideM n).1 ∧ (wideM n).1 ≤ 32 := by
  unfold wideM at *
  split
  · exact okW_iff.1 (by assumption)
  · rename_i h1
    rw [if_neg h1] at h
    cases h
theorem primM_fine (p : ProgD) (ps : List FieldD) (x : NodeD) (h : (primM p ps x).2 = 0) : 1 ≤ (primM p ps x).1 ∧ (primM p ps x).1 ≤ 32 := by
  unfold primM at *
  split at h
  · rename_i h1
    rw [if_pos h1]
    split at h
    · rename_i h2
      rw [if_pos h2]
      split at h
      · cases h
      · rename_i h3
        rw [if_neg h3]
        exact okW_iff.1 h2
    · cases h
  · rename_i h1
    rw [if_neg h1]
    split at h
    · rename_i h2
      rw [if_pos h2]
      split at h
      · cases h
      · exact wideM_fine _ h
    · rename_i h2
      rw [if_neg h2]
      split at h
      · rename_i h3
        rw [if_pos h3]
        split at h
        · cases h
        · rename_i h4
          rw [if_neg h4]
          split at h
          · cases h
          · exact wideM_fine _ h
      · rename_i h3
        rw [if_neg h3]
        split at h
        · cases h
        · rename_i h4
          rw [if_neg h4]
          exact ⟨by decide, by decide⟩
theorem combM_fine (x : NodeD) (a b c : Int) (ha : 1 ≤ a ∧ a ≤ 32) (hb : x.op = 17 → 1 ≤ b ∧ b ≤ 32) (h : (combM x a b c).2 = 0) : 1 ≤ (combM x a b c).1 ∧ (combM x a b c).1 ≤ 32 := by
  unfold combM at *
  split at h
  · rename_i h1
    rw [if_pos h1]
    split at h
    · cases h
    · rename_i h2
      rw [if_neg h2]; exact ha
  · rename_i h1
    rw [if_neg h1]
    split at h
    · rename_i h2
      rw [if_pos h2]
      split at h
      · cases h
      · rename_i h3
        rw [if_neg h3]
        split at h
        · cases h
        · rename_i h4
          rw [if_neg h4]
          have : okW x.w = true := by
            cases hv : okW x.w
            · exact absurd (Or.inl hv) h4
            · rfl
          exact okW_iff.1 this
    · rename_i h2
      rw [if_neg h2]
      split at h
      · rename_i h3
        rw [if_pos h3]
        exact wideM_fine _ h
      · rename_i h3
        rw [if_neg h3]
        split at h
        · rename_i h4
          rw [if_pos h4]
          split at h
          · cases h
          · rename_i h5
            rw [if_neg h5]; exact hb h4
        · rename_i h4
          rw [if_neg h4]
          split at h
          · cases h
          · rename_i h5
            rw [if_neg h5]
            split
            · exact ⟨by decide, by decide⟩
            · exact ha
theorem chkM_fine (p : ProgD) (ps : List FieldD) (l : List NodeD) : ∀ (m i : Nat), (chkM p ps l m i).2.2 = 0 → i < (chkM p ps l m i).2.1 ∧ (chkM p ps l m i).2.1 ≤ l.length ∧ 1 ≤ (chkM p ps l m i).1 ∧ (chkM p ps l m i).1 ≤ 32
  | 0, i, h => by rw [chkM] at h; cases h
  | m + 1, i, h => by
    rw [chkM] at h ⊢
    rcases hx : l[i]? with _ | x
    · rw [hx] at h; cases h
    rw [hx] at h
    simp only at h ⊢
    have hi : i < l.length := (List.getElem?_eq_some_iff.1 hx).1
    by_cases k1 : arityM x.op < 0
    · rw [if_pos k1] at h; cases h
    rw [if_neg k1] at h ⊢
    by_cases k2 : arityM x.op = 0
    · rw [if_pos k2] at h ⊢
      exact ⟨Nat.lt_succ_self i, hi, primM_fine p ps x h⟩
    rw [if_neg k2] at h ⊢
    have f1 := chkM_fine p ps l m (i + 1)
    generalize chkM p ps l m (i + 1) = r1 at *
    by_cases k3 : r1.2.2 = 0
    · rw [if_neg (by simp [k3])] at h ⊢
      obtain ⟨g1, g2, g3⟩ := f1 k3
      by_cases k4 : arityM x.op = 1
      · rw [if_pos k4] at h ⊢
        exact ⟨by simp only; omega, g2, combM_fine x _ _ _ g3 (fun e => by rw [e] at k4; revert k4; decide) h⟩
      rw [if_neg k4] at h ⊢
      have f2 := chkM_fine p ps l m r1.2.1
      generalize chkM p ps l m r1.2.1 = r2 at *
      by_cases k5 : r2.2.2 = 0
      · rw [if_neg (by simp [k5])] at h ⊢
        obtain ⟨g4, g5, g6⟩ := f2 k5
        by_cases k6 : arityM x.op = 2
        · rw [if_pos k6] at h ⊢
          exact ⟨by simp only; omega, g5, combM_fine x _ _ _ g3 (fun _ => g6) h⟩
        rw [if_neg k6] at h ⊢
        have f3 := chkM_fine p ps l m r2.2.1
        generalize chkM p ps l m r2.2.1 = r3 at *
        by_cases k7 : r3.2.2 = 0
        · rw [if_neg (by simp [k7])] at h ⊢
          obtain ⟨g7, g8, g9⟩ := f3 k7
          exact ⟨by simp only; omega, g8, combM_fine x _ _ _ g3 (fun _ => g6) h⟩
        · rw [if_pos k7] at h; exact absurd h k7
      · rw [if_pos k5] at h; exact absurd h k5
    · rw [if_pos k3] at h; exact absurd h k3
theorem arityM_cases (op : Int) : arityM op = -1 ∨ arityM op = 0 ∨ (arityM op = 1 ∧ 5 ≤ op ∧ op ≤ 17) ∨ (arityM op = 2 ∧ 5 ≤ op ∧ op ≤ 17) ∨ (arityM op = 3 ∧ 5 ≤ op ∧ op ≤ 17) := by
  unfold arityM
  repeat' split
  all_goals omega
theorem ret_ppp {a b c : Int} {r : Int × Nat × Int} (h1 : r.1 = a) (h2 : (r.2.1 : Int) = b) (h3 : r.2.2 = c) :
    Ending.returned (.tuple #[.int .i64 a, .int .i64 b, .int .i64 c]) = .returned (.tuple #[.int .i64 r.1, .int .i64 (r.2.1 : Int), .int .i64 r.2.2]) := by rw [h1, h2, h3]
@[reducible] def arr3 (a b c : Int) : Array Value := #[.int .i64 a, .int .i64 b, .int .i64 c]
theorem chk_any (p : ProgD) (ps : L FieldD) (x : L NodeD) (hle : x.l.length ≤ 24) : ∀ (m i : Nat) (w : World), x.l.length < i + m → i ≤ x.l.length → ProgOk w p → LOk w 2 FieldD.cells ps → LOk w 3 NodeD.cells x →
    Calls Tryz.prog 211 #[.agg (scopeCells p ps), .slice x.A x.l.length x.c, .int .i64 i] w fun e w' =>
      e = .returned (.tuple #[.int .i64 (chkM p ps.l x.l m i).1, .int .i64 ((chkM p ps.l x.l m i).2.1 : Int), .int .i64 (chkM p ps.l x.l m i).2.2]) ∧ Below w.heap.size w w'
  | 0, i, w, h1, h2, _, _, _ => absurd h1 (by omega)
  | m + 1, i, w, h1, h2, o, hps, hx => by
    have IH := hi_ (chk_any p ps x hle m)
    have HO := hi_ o
    have HP := hi_ hps
    have HX := hi_ hx
    have HC := hi_ (chkM.eq_2 p ps.l x.l i m)
    clear o hps hx
    obtain ⟨W, hW, hw, HB, hp⟩ := box1 w (scopeCells p ps) 217
    have HW := hi_ hw
    clear hw
    by_cases k0 : i < x.l.length
    case neg =>
      have HR : Hid (chkM p ps.l x.l (m + 1) i = (0, 0, 3)) := hi_ (by rw [HC.out, List.getElem?_eq_none (by omega)])
      go_enter Tryz.func211, Tryz.ntmps211
      go_wp2
      go_ret3
      exact ⟨ret_ppp (by rw [HR.out]) (by rw [HR.out]; rfl) (by rw [HR.out]), below1 _ _⟩
    case pos =>
      have HC2 := hi_ (show chkM p ps.l x.l (m + 1) i = _ by rw [HC.out, List.getElem?_eq_getElem k0])
      simp only at HC2
      obtain ⟨g, of, hA, hq⟩ := NodeD.atA (HX.out.below HW.out (Nat.le_refl _)) k0
      clear HC
      generalize x.l[i] = y at *
      obtain ⟨op, n, wd⟩ := y
      simp only at hq HC2
      simp only [hA]
      have IH2 : Hid (∀ (j : Nat) (w' : World), i < j → j ≤ x.l.length → Below W.heap.size W w' →
          Calls Tryz.prog 211 #[.agg (scopeCells p ps), .slice (some ⟨g, of, none⟩) x.l.length x.c, .int .i64 j] w' fun e w2 =>
            e = .returned (.tuple #[.int .i64 (chkM p ps.l x.l m j).1, .int .i64 ((chkM p ps.l x.l m j).2.1 : Int), .int .i64 (chkM p ps.l x.l m j).2.2]) ∧ Below w'.heap.size w' w2) :=
        hi_ (by
          intro j w' h3 h4 hb
          have := IH.out j w' (by omega) h4 (HO.out.below (below_step HW.out hb)) (HP.out.below (below_step HW.out hb) (Nat.le_refl _)) (HX.out.below (below_step HW.out hb) (Nat.le_refl _))
          rw [hA] at this
          exact this)
      have hca := @World.cell?_alloc_some
      have hn1 : (i : Int) < (x.l.length : Int) := by omega
      have hn2 : (i : Int) + 1 ≤ (x.l.length : Int) := by omega
      clear IH h1 h2 hA
      have hk := arityM_cases op
      go_enter Tryz.func211, Tryz.ntmps211
      go_upto_region 1 with fail
      rw [← hW]
      clear hW
      go_wp2_with fail
      refine (arity_any op _).mono ?_
      rintro e w' ⟨rfl, rfl⟩
      generalize hko : arityM op = ko at *
      rcases hk with rfl | rfl | ⟨rfl, o1, o2⟩ | ⟨rfl, o1, o2⟩ | ⟨rfl, o1, o2⟩
      · have HR : Hid (chkM p ps.l x.l (m + 1) i = (0, 0, 11)) := hi_ (by rw [HC2.out]; rfl)
        go_wp2
        go_ret3
        exact ⟨ret_ppp (by rw [HR.out]) (by rw [HR.out]; rfl) (by rw [HR.out]), below_step HW.out HB⟩
      · have HR : Hid (chkM p ps.l x.l (m + 1) i = ((primM p ps.l ⟨op, n, wd⟩).1, i + 1, (primM p ps.l ⟨op, n, wd⟩).2)) := hi_ (by rw [HC2.out]; rfl)
        have H0 := hi_ HB
        clear HB
        go_wp2
        go_region_held3 (fun w' => Below W.heap.size W w') (first | exact H0.out | exact below_drew H0.out | (exact below_step (by assumption) (by assumption)) | assumption)
          (first | (go_at_call 217; refine (primary_any p ps op n wd _ (HO.out.below (below_step HW.out (by assumption))) (HP.out.below (below_step HW.out (by assumption)) (Nat.le_refl _))).mono ?_; rintro e w1 ⟨rfl, hb1⟩))
        have HB5 : Hid (Below W.heap.size W _) := hi_ (by assumption)
        have HB := HB5.out
        go_wp2
        go_ret3
        exact ⟨ret_ppp (by rw [HR.out]) (by rw [HR.out]; simp only; omega) (by rw [HR.out]), below_step HW.out HB⟩
      · skip
        refine Exists.elim (⟨_, rfl⟩ : ∃ U, U = W.alloc (.cells (arr3 0 0 0) 85)) fun U hU => ?_
        have hB : Blk U W.heap.size 85 (arr3 0 0 0) := by rw [hU]; exact Blk.new _ _ _
        replace HB : Below W.heap.size W U := by rw [hU]; exact below1 _ _
        go_wp2
        rw [← hU]
        clear hU
        refine wp_loop_rounds 2 ?_
        rw [rounds_succ]
        have f1 := chkM_fine p ps.l x.l m (i + 1)
        go_wp2_with fail
        have hI := IH2.out (i + 1) _ (by omega) (by omega) HB
        rw [show ((i + 1 : Nat) : Int) = (i : Int) + 1 by omega] at hI
        refine hI.mono ?_
        clear hI
        rintro e v ⟨rfl, hbN⟩
        replace hB := hB.below hbN hB.lt
        replace HB := below_step HB hbN
        clear hbN
        generalize hr1 : chkM p ps.l x.l m (i + 1) = r1 at *
        obtain ⟨a1, t1, c1⟩ := r1
        simp only at f1
        have z0 : v.cell? ⟨W.heap.size, 0, none⟩ = some (.int .i64 0) := hB.cell 0
        have z1 : v.frozen? ⟨W.heap.size, 0, none⟩ = false := hB.frozen 0
        refine Exists.elim (⟨_, rfl⟩ : ∃ V, V = v.setCell ⟨W.heap.size, 0, none⟩ (.int .i64 a1)) fun V hV => ?_
        replace hB : Blk V W.heap.size 85 (arr3 a1 0 0) := by rw [hV]; exact hB.set_ 0 _
        replace HB : Below W.heap.size W V := by rw [hV]; exact HB.setCell (Nat.le_refl _) _
        by_cases kc : c1 = 0
        case neg =>
          have HR : Hid (chkM p ps.l x.l (m + 1) i = (0, 0, c1)) := hi_ (by rw [HC2.out]; simp [kc])
          have kc' : (c1 == 0) = false := beq_eq_false_iff_ne.2 kc
          go_wp2
          rw [← hV]
          go_ret3
          exact ⟨ret_ppp (by rw [HR.out]) (by rw [HR.out]; rfl) (by rw [HR.out]), below_step HW.out HB⟩
        subst kc
        obtain ⟨p11, p12, p13, p14⟩ := f1 rfl
        clear f1
        go_wp2
        rw [← hV]
        clear hV z0 z1
        rw [rounds_succ]
        have hq2 := fun w' h => hq w' (below_step HB h)
        have ha : ∀ w', Below V.heap.size V w' → w'.cell? ⟨W.heap.size, 0, none⟩ = some (.int .i64 a1) ∧ w'.cell? ⟨W.heap.size, 1, none⟩ = some (.int .i64 0) ∧ w'.cell? ⟨W.heap.size, 2, none⟩ = some (.int .i64 0) :=
          fun w' h => ⟨below_cell h (hB.cell 0), below_cell h (hB.cell 1), below_cell h (hB.cell 2)⟩
        have HR : Hid (chkM p ps.l x.l (m + 1) i = ((combM ⟨op, n, wd⟩ a1 0 0).1, t1, (combM ⟨op, n, wd⟩ a1 0 0).2)) := hi_ (by rw [HC2.out]; simp)
        have H0 := hi_ (Below.refl V.heap.size V)
        have HV := hi_ HB
        clear HB hq
        go_wp2
        go_region_held3 (fun w' => Below V.heap.size V w') (first | exact H0.out | exact below_drew H0.out | (exact below_step (by assumption) (by assumption)) | assumption)
          (first | (go_at_call 218; refine (combine_any op n wd a1 0 0 _ o1 o2 (by omega) (by omega)).mono ?_; rintro e w1 ⟨rfl, hb1⟩))
        have HB5 : Hid (Below V.heap.size V _) := hi_ (by assumption)
        go_wp2
        go_ret3
        exact ⟨ret_ppp (by rw [HR.out]) (by rw [HR.out]) (by rw [HR.out]), below_step HW.out (below_step HV.out HB5.out)⟩
      · skip
        refine Exists.elim (⟨_, rfl⟩ : ∃ U, U = W.alloc (.cells (arr3 0 0 0) 85)) fun U hU => ?_
        have hB : Blk U W.heap.size 85 (arr3 0 0 0) := by rw [hU]; exact Blk.new _ _ _
        replace HB : Below W.heap.size W U := by rw [hU]; exact below1 _ _
        go_wp2
        rw [← hU]
        clear hU
        refine wp_loop_rounds 3 ?_
        rw [rounds_succ]
        have f1 := chkM_fine p ps.l x.l m (i + 1)
        go_wp2_with fail
        have hI := IH2.out (i + 1) _ (by omega) (by omega) HB
        rw [show ((i + 1 : Nat) : Int) = (i : Int) + 1 by omega] at hI
        refine hI.mono ?_
        clear hI
        rintro e v ⟨rfl, hbN⟩
        replace hB := hB.below hbN hB.lt
        replace HB := below_step HB hbN
        clear hbN
        generalize hr1 : chkM p ps.l x.l m (i + 1) = r1 at *
        obtain ⟨a1, t1, c1⟩ := r1
        simp only at f1
        have z0 : v.cell? ⟨W.heap.size, 0, none⟩ = some (.int .i64 0) := hB.cell 0
        have z1 : v.frozen? ⟨W.heap.size, 0, none⟩ = false := hB.frozen 0
        refine Exists.elim (⟨_, rfl⟩ : ∃ V, V = v.setCell ⟨W.heap.size, 0, none⟩ (.int .i64 a1)) fun V hV => ?_
        replace hB : Blk V W.heap.size 85 (arr3 a1 0 0) := by rw [hV]; exact hB.set_ 0 _
        replace HB : Below W.heap.size W V := by rw [hV]; exact HB.setCell (Nat.le_refl _) _
        by_cases kc : c1 = 0
        case neg =>
          have HR : Hid (chkM p ps.l x.l (m + 1) i = (0, 0, c1)) := hi_ (by rw [HC2.out]; simp [kc])
          have kc' : (c1 == 0) = false := beq_eq_false_iff_ne.2 kc
          go_wp2
          rw [← hV]
          go_ret3
          exact ⟨ret_ppp (by rw [HR.out]) (by rw [HR.out]; rfl) (by rw [HR.out]), below_step HW.out HB⟩
        subst kc
        obtain ⟨p11, p12, p13, p14⟩ := f1 rfl
        clear f1
        go_wp2
        rw [← hV]
        clear hV z0 z1
        rw [rounds_succ]
        have f2 := chkM_fine p ps.l x.l m (t1)
        go_wp2_with fail
        have hI := IH2.out t1 _ (by omega) (by omega) HB
        refine hI.mono ?_
        clear hI
        rintro e v ⟨rfl, hbN⟩
        replace hB := hB.below hbN hB.lt
        replace HB := below_step HB hbN
        clear hbN
        generalize hr2 : chkM p ps.l x.l m (t1) = r2 at *
        obtain ⟨a2, t2, c2⟩ := r2
        simp only at f2
        have z0 : v.cell? ⟨W.heap.size, 1, none⟩ = some (.int .i64 0) := hB.cell 1
        have z1 : v.frozen? ⟨W.heap.size, 1, none⟩ = false := hB.frozen 1
        refine Exists.elim (⟨_, rfl⟩ : ∃ V, V = v.setCell ⟨W.heap.size, 1, none⟩ (.int .i64 a2)) fun V hV => ?_
        replace hB : Blk V W.heap.size 85 (arr3 a1 a2 0) := by rw [hV]; exact hB.set_ 1 _
        replace HB : Below W.heap.size W V := by rw [hV]; exact HB.setCell (Nat.le_refl _) _
        by_cases kc : c2 = 0
        case neg =>
          have HR : Hid (chkM p ps.l x.l (m + 1) i = (0, 0, c2)) := hi_ (by rw [HC2.out]; simp [kc])
          have kc' : (c2 == 0) = false := beq_eq_false_iff_ne.2 kc
          go_wp2
          rw [← hV]
          go_ret3
          exact ⟨ret_ppp (by rw [HR.out]) (by rw [HR.out]; rfl) (by rw [HR.out]), below_step HW.out HB⟩
        subst kc
        obtain ⟨p21, p22, p23, p24⟩ := f2 rfl
        clear f2
        go_wp2
        rw [← hV]
        clear hV z0 z1
        rw [rounds_succ]
        have hq2 := fun w' h => hq w' (below_step HB h)
        have ha : ∀ w', Below V.heap.size V w' → w'.cell? ⟨W.heap.size, 0, none⟩ = some (.int .i64 a1) ∧ w'.cell? ⟨W.heap.size, 1, none⟩ = some (.int .i64 a2) ∧ w'.cell? ⟨W.heap.size, 2, none⟩ = some (.int .i64 0) :=
          fun w' h => ⟨below_cell h (hB.cell 0), below_cell h (hB.cell 1), below_cell h (hB.cell 2)⟩
        have HR : Hid (chkM p ps.l x.l (m + 1) i = ((combM ⟨op, n, wd⟩ a1 a2 0).1, t2, (combM ⟨op, n, wd⟩ a1 a2 0).2)) := hi_ (by rw [HC2.out]; simp)
        have H0 := hi_ (Below.refl V.heap.size V)
        have HV := hi_ HB
        clear HB hq
        go_wp2
        go_region_held3 (fun w' => Below V.heap.size V w') (first | exact H0.out | exact below_drew H0.out | (exact below_step (by assumption) (by assumption)) | assumption)
          (first | (go_at_call 218; refine (combine_any op n wd a1 a2 0 _ o1 o2 (by omega) (by omega)).mono ?_; rintro e w1 ⟨rfl, hb1⟩))
        have HB5 : Hid (Below V.heap.size V _) := hi_ (by assumption)
        go_wp2
        go_ret3
        exact ⟨ret_ppp (by rw [HR.out]) (by rw [HR.out]) (by rw [HR.out]), below_step HW.out (below_step HV.out HB5.out)⟩
      · skip
        refine Exists.elim (⟨_, rfl⟩ : ∃ U, U = W.alloc (.cells (arr3 0 0 0) 85)) fun U hU => ?_
        have hB : Blk U W.heap.size 85 (arr3 0 0 0) := by rw [hU]; exact Blk.new _ _ _
        replace HB : Below W.heap.size W U := by rw [hU]; exact below1 _ _
        go_wp2
        rw [← hU]
        clear hU
        refine wp_loop_rounds 4 ?_
        rw [rounds_succ]
        have f1 := chkM_fine p ps.l x.l m (i + 1)
        go_wp2_with fail
        have hI := IH2.out (i + 1) _ (by omega) (by omega) HB
        rw [show ((i + 1 : Nat) : Int) = (i : Int) + 1 by omega] at hI
        refine hI.mono ?_
        clear hI
        rintro e v ⟨rfl, hbN⟩
        replace hB := hB.below hbN hB.lt
        replace HB := below_step HB hbN
        clear hbN
        generalize hr1 : chkM p ps.l x.l m (i + 1) = r1 at *
        obtain ⟨a1, t1, c1⟩ := r1
        simp only at f1
        have z0 : v.cell? ⟨W.heap.size, 0, none⟩ = some (.int .i64 0) := hB.cell 0
        have z1 : v.frozen? ⟨W.heap.size, 0, none⟩ = false := hB.frozen 0
        refine Exists.elim (⟨_, rfl⟩ : ∃ V, V = v.setCell ⟨W.heap.size, 0, none⟩ (.int .i64 a1)) fun V hV => ?_
        replace hB : Blk V W.heap.size 85 (arr3 a1 0 0) := by rw [hV]; exact hB.set_ 0 _
        replace HB : Below W.heap.size W V := by rw [hV]; exact HB.setCell (Nat.le_refl _) _
        by_cases kc : c1 = 0
        case neg =>
          have HR : Hid (chkM p ps.l x.l (m + 1) i = (0, 0, c1)) := hi_ (by rw [HC2.out]; simp [kc])
          have kc' : (c1 == 0) = false := beq_eq_false_iff_ne.2 kc
          go_wp2
          rw [← hV]
          go_ret3
          exact ⟨ret_ppp (by rw [HR.out]) (by rw [HR.out]; rfl) (by rw [HR.out]), below_step HW.out HB⟩
        subst kc
        obtain ⟨p11, p12, p13, p14⟩ := f1 rfl
        clear f1
        go_wp2
        rw [← hV]
        clear hV z0 z1
        rw [rounds_succ]
        have f2 := chkM_fine p ps.l x.l m (t1)
        go_wp2_with fail
        have hI := IH2.out t1 _ (by omega) (by omega) HB
        refine hI.mono ?_
        clear hI
        rintro e v ⟨rfl, hbN⟩
        replace hB := hB.below hbN hB.lt
        replace HB := below_step HB hbN
        clear hbN
        generalize hr2 : chkM p ps.l x.l m (t1) = r2 at *
        obtain ⟨a2, t2, c2⟩ := r2
        simp only at f2
        have z0 : v.cell? ⟨W.heap.size, 1, none⟩ = some (.int .i64 0) := hB.cell 1
        have z1 : v.frozen? ⟨W.heap.size, 1, none⟩ = false := hB.frozen 1
        refine Exists.elim (⟨_, rfl⟩ : ∃ V, V = v.setCell ⟨W.heap.size, 1, none⟩ (.int .i64 a2)) fun V hV => ?_
        replace hB : Blk V W.heap.size 85 (arr3 a1 a2 0) := by rw [hV]; exact hB.set_ 1 _
        replace HB : Below W.heap.size W V := by rw [hV]; exact HB.setCell (Nat.le_refl _) _
        by_cases kc : c2 = 0
        case neg =>
          have HR : Hid (chkM p ps.l x.l (m + 1) i = (0, 0, c2)) := hi_ (by rw [HC2.out]; simp [kc])
          have kc' : (c2 == 0) = false := beq_eq_false_iff_ne.2 kc
          go_wp2
          rw [← hV]
          go_ret3
          exact ⟨ret_ppp (by rw [HR.out]) (by rw [HR.out]; rfl) (by rw [HR.out]), below_step HW.out HB⟩
        subst kc
        obtain ⟨p21, p22, p23, p24⟩ := f2 rfl
        clear f2
        go_wp2
        rw [← hV]
        clear hV z0 z1
        rw [rounds_succ]
        have f3 := chkM_fine p ps.l x.l m (t2)
        go_wp2_with fail
        have hI := IH2.out t2 _ (by omega) (by omega) HB
        refine hI.mono ?_
        clear hI
        rintro e v ⟨rfl, hbN⟩
        replace hB := hB.below hbN hB.lt
        replace HB := below_step HB hbN
        clear hbN
        generalize hr3 : chkM p ps.l x.l m (t2) = r3 at *
        obtain ⟨a3, t3, c3⟩ := r3
        simp only at f3
        have z0 : v.cell? ⟨W.heap.size, 2, none⟩ = some (.int .i64 0) := hB.cell 2
        have z1 : v.frozen? ⟨W.heap.size, 2, none⟩ = false := hB.frozen 2
        refine Exists.elim (⟨_, rfl⟩ : ∃ V, V = v.setCell ⟨W.heap.size, 2, none⟩ (.int .i64 a3)) fun V hV => ?_
        replace hB : Blk V W.heap.size 85 (arr3 a1 a2 a3) := by rw [hV]; exact hB.set_ 2 _
        replace HB : Below W.heap.size W V := by rw [hV]; exact HB.setCell (Nat.le_refl _) _
        by_cases kc : c3 = 0
        case neg =>
          have HR : Hid (chkM p ps.l x.l (m + 1) i = (0, 0, c3)) := hi_ (by rw [HC2.out]; simp [kc])
          have kc' : (c3 == 0) = false := beq_eq_false_iff_ne.2 kc
          go_wp2
          rw [← hV]
          go_ret3
          exact ⟨ret_ppp (by rw [HR.out]) (by rw [HR.out]; rfl) (by rw [HR.out]), below_step HW.out HB⟩
        subst kc
        obtain ⟨p31, p32, p33, p34⟩ := f3 rfl
        clear f3
        go_wp2
        rw [← hV]
        clear hV z0 z1
        rw [rounds_succ]
        have hq2 := fun w' h => hq w' (below_step HB h)
        have ha : ∀ w', Below V.heap.size V w' → w'.cell? ⟨W.heap.size, 0, none⟩ = some (.int .i64 a1) ∧ w'.cell? ⟨W.heap.size, 1, none⟩ = some (.int .i64 a2) ∧ w'.cell? ⟨W.heap.size, 2, none⟩ = some (.int .i64 a3) :=
          fun w' h => ⟨below_cell h (hB.cell 0), below_cell h (hB.cell 1), below_cell h (hB.cell 2)⟩
        have HR : Hid (chkM p ps.l x.l (m + 1) i = ((combM ⟨op, n, wd⟩ a1 a2 a3).1, t3, (combM ⟨op, n, wd⟩ a1 a2 a3).2)) := hi_ (by rw [HC2.out]; simp)
        have H0 := hi_ (Below.refl V.heap.size V)
        have HV := hi_ HB
        clear HB hq
        go_wp2
        go_region_held3 (fun w' => Below V.heap.size V w') (first | exact H0.out | exact below_drew H0.out | (exact below_step (by assumption) (by assumption)) | assumption)
          (first | (go_at_call 218; refine (combine_any op n wd a1 a2 a3 _ o1 o2 (by omega) (by omega)).mono ?_; rintro e w1 ⟨rfl, hb1⟩))
        have HB5 : Hid (Below V.heap.size V _) := hi_ (by assumption)
        go_wp2
        go_ret3
        exact ⟨ret_ppp (by rw [HR.out]) (by rw [HR.out]) (by rw [HR.out]), below_step HW.out (below_step HV.out HB5.out)⟩
theorem exprCheck_any (p : ProgD) (ps : L FieldD) (x : L NodeD) (w : World) (o : ProgOk w p) (hps : LOk w 2 FieldD.cells ps) (hx : LOk w 3 NodeD.cells x) :
    Calls Tryz.prog 201 #[.slice x.A x.l.length x.c, .agg (scopeCells p ps)] w fun e w' => e = .returned (.tuple #[.int .i64 (exprM p ps.l x.l).1, .int .i64 (exprM p ps.l x.l).2]) ∧ Below w.heap.size w w' := by
  have HO := hi_ o
  have HP := hi_ hps
  have HX := hi_ hx
  have hm := hx.1
  clear o hps hx
  obtain ⟨W, hW, hw, HB, hp⟩ := box1 w (scopeCells p ps) 217
  have HW := hi_ hw
  clear hw
  by_cases h1 : 24 < x.l.length
  · have HR := hi_ (show exprM p ps.l x.l = (0, 12) by rw [exprM, if_pos h1])
    go_enter Tryz.func201, Tryz.ntmps201
    go_wp2
    go_ret2
    exact ⟨ret_pp HR.out, below1 _ _⟩
  have HR := hi_ (show exprM p ps.l x.l = _ by rw [exprM, if_neg h1])
  have hf := chkM_fine p ps.l x.l (x.l.length + 1) 0
  have hle : x.l.length ≤ 24 := by omega
  go_enter Tryz.func201, Tryz.ntmps201
  go_upto_region 1 with fail
  rw [← hW]
  clear hW
  go_wp2_with fail
  refine (chk_any p ps x hle (x.l.length + 1) 0 _ (by omega) (by omega) (HO.out.below (below_step HW.out (by first | exact HB | exact below_alloc HB _ | exact ba2 HB | exact ba3 HB))) (HP.out.below (below_step HW.out (by first | exact HB | exact below_alloc HB _ | exact ba2 HB | exact ba3 HB)) (Nat.le_refl _)) (HX.out.below (below_step HW.out (by first | exact HB | exact below_alloc HB _ | exact ba2 HB | exact ba3 HB)) (Nat.le_refl _))).mono ?_
  rintro e w1 ⟨rfl, hbN⟩
  replace HB := below_step (by first | exact HB | exact below_alloc HB _ | exact ba2 HB | exact ba3 HB) hbN
  clear hbN
  generalize chkM p ps.l x.l (x.l.length + 1) 0 = r at *
  obtain ⟨a, t, c⟩ := r
  simp only at HR hf
  by_cases k1 : c = 0
  · subst k1
    obtain ⟨_, f2, _⟩ := hf rfl
    by_cases k2 : t < x.l.length
    · replace HR : Hid (exprM p ps.l x.l = (0, 4)) := hi_ (by rw [HR.out]; simp [k2])
      go_wp2
      go_ret2
      exact ⟨ret_pp HR.out, below_step HW.out HB⟩
    · replace HR : Hid (exprM p ps.l x.l = (a, 0)) := hi_ (by rw [HR.out]; simp [k2])
      go_wp2
      go_ret2
      exact ⟨ret_pp HR.out, below_step HW.out HB⟩
  · have k1' : (c == 0) = false := beq_eq_false_iff_ne.2 k1
    replace HR : Hid (exprM p ps.l x.l = (0, c)) := hi_ (by rw [HR.out]; simp [k1])
    go_wp2
    go_ret2
    exact ⟨ret_pp HR.out, below_step HW.out HB⟩
def widthV (d : Option Int) : Value := .tuple #[.int .i64 (d.getD 0), .bool d.isSome]
theorem declM_some {p : ProgD} {h f : Int} {y : FieldD} (hd : declF p h f = some y) : declM p h f = some y.width := by rw [declM, hd]; rfl
theorem declM_none {p : ProgD} {h f : Int} (hd : declF p h f = none) : declM p h f = none := by rw [declM, hd]; rfl
theorem awidth_any (p : ProgD) (h f : Int) (w : World) (o : ProgOk w p) :
    Calls Tryz.prog 199 #[.agg (progCells p), .agg #[.int .i64 h, .int .i64 f]] w fun e w' => e = .returned (widthV (declM p h f)) ∧ Below w.heap.size w w' := by
  have HO := hi_ o
  clear o
  have hca := @World.cell?_alloc_some
  rcases fieldsOf_cases p h with ⟨rfl, hx⟩ | ⟨h1, h2, hx⟩ | ⟨k, hk, rfl, hx⟩
  · rcases declF_cases hx f with ⟨h3, hd⟩ | ⟨j, hj, rfl, hd⟩
    · have HR := hi_ (declM_none hd)
      clear hd hx
      rcases h3 with h3 | h3
      all_goals
        go_enter Tryz.func199, Tryz.ntmps199
        go_wp2
        go_ret2
        exact ⟨by rw [HR.out]; rfl, below2 _ _ _⟩
    · have HR := hi_ (declM_some hd)
      obtain ⟨g, of, hA, d0, d1⟩ := FieldD.at HO.out.metadata hj
      simp only [progCells, hA]
      clear hd hx hA
      generalize p.metadata.l[j] = y at *
      go_enter Tryz.func199, Tryz.ntmps199
      go_wp2
      go_ret2
      exact ⟨by rw [HR.out]; rfl, below2 _ _ _⟩
  · have HR := hi_ (declM_none (declF_none hx f))
    have h1' : (h == -1) = false := beq_eq_false_iff_ne.2 h1
    clear hx
    rcases h2 with h2 | h2
    all_goals
      go_enter Tryz.func199, Tryz.ntmps199
      go_wp2
      go_ret2
      exact ⟨by rw [HR.out]; rfl, below2 _ _ _⟩
  · obtain ⟨g, of, hA, d0, d1⟩ := HeaderD.at HO.out.headers hk
    have HF := hi_ (HO.out.hdr _ (List.getElem_mem hk)).fields
    have h1' : ((k : Int) == -1) = false := beq_eq_false_iff_ne.2 (by omega)
    simp only [progCells, hA]
    clear hA
    generalize p.headers.l[k] = x at *
    obtain ⟨xn, ⟨fl, fA, fc⟩⟩ := x
    simp only [L.v] at d1
    rcases declF_cases hx f with ⟨h3, hd⟩ | ⟨j, hj, rfl, hd⟩
    · have HR := hi_ (declM_none hd)
      simp only at h3
      clear hd hx
      rcases h3 with h3 | h3
      all_goals
        go_enter Tryz.func199, Tryz.ntmps199
        go_wp2
        go_ret2
        exact ⟨by rw [HR.out]; rfl, below2 _ _ _⟩
    · have HR := hi_ (declM_some hd)
      obtain ⟨g2, of2, hA, e0, e1⟩ := FieldD.at HF.out hj
      simp only at hA hj e0 e1
      subst hA
      clear hd hx
      generalize fl[j] = y at *
      go_enter Tryz.func199, Tryz.ntmps199
      go_wp2
      go_ret2
      exact ⟨by rw [HR.out]; rfl, below2 _ _ _⟩
theorem avalue_any (p : ProgD) (ps : L FieldD) (x : L NodeD) (n : Int) (w : World) (o : ProgOk w p) (hps : LOk w 2 FieldD.cells ps) (hx : LOk w 3 NodeD.cells x) :
    Calls Tryz.prog 200 #[.agg (scopeCells p ps), .slice x.A x.l.length x.c, .int .i64 n] w fun e w' => e = .returned (.int .i64 (sizedM p ps.l x.l n)) ∧ Below w.heap.size w w' := by
  have HO := hi_ o
  have HP := hi_ hps
  have HX := hi_ hx
  clear o hps hx
  obtain ⟨W, hW, hw, HB, hp⟩ := box1 w (scopeCells p ps) 219
  have HW := hi_ hw
  clear hw
  have HR := hi_ (sizedM.eq_1 p ps.l x.l n)
  go_enter Tryz.func200, Tryz.ntmps200
  go_upto_region 1 with fail
  rw [← hW]
  clear hW
  go_wp2_with fail
  refine (exprCheck_any p ps x _ (HO.out.below (below_step HW.out (by first | exact HB | exact below_alloc HB _ | exact ba2 HB | exact ba3 HB))) (HP.out.below (below_step HW.out (by first | exact HB | exact below_alloc HB _ | exact ba2 HB | exact ba3 HB)) (Nat.le_refl _)) (HX.out.below (below_step HW.out (by first | exact HB | exact below_alloc HB _ | exact ba2 HB | exact ba3 HB)) (Nat.le_refl _))).mono ?_
  rintro e w1 ⟨rfl, hbN⟩
  replace HB := below_step (by first | exact HB | exact below_alloc HB _ | exact ba2 HB | exact ba3 HB) hbN
  clear hbN
  generalize exprM p ps.l x.l = r at *
  obtain ⟨a, c⟩ := r
  simp only at HR
  by_cases k1 : c = 0
  · subst k1
    by_cases k2 : a = n
    · subst k2
      replace HR : Hid (sizedM p ps.l x.l a = 0) := hi_ (by rw [HR.out]; simp)
      go_wp2
      go_ret
      exact ⟨by rw [HR.out]; rfl, below_step HW.out HB⟩
    · have k2' : (a == n) = false := beq_eq_false_iff_ne.2 k2
      replace HR : Hid (sizedM p ps.l x.l n = 10) := hi_ (by rw [HR.out]; simp [k2])
      go_wp2
      go_ret
      exact ⟨by rw [HR.out]; rfl, below_step HW.out HB⟩
  · have k1' : (c == 0) = false := beq_eq_false_iff_ne.2 k1
    replace HR : Hid (sizedM p ps.l x.l n = c) := hi_ (by rw [HR.out]; simp [k1])
    go_wp2
    go_ret
    exact ⟨by rw [HR.out]; rfl, below_step HW.out HB⟩
theorem sameName_any (g : Nat) (nf nm : ByteArray) (n : Int) (w : World) (h : w.cell? ⟨g, 0, none⟩ = some (.string nm)) :
    Calls Tryz.prog 198 #[.agg #[.string nf, .int .i64 n], .pointer (some ⟨g, 0, none⟩)] w fun e w' => e = .returned (.bool (nf.toList == nm.toList)) ∧ Below w.heap.size w w' := by
  have hca := @World.cell?_alloc_some
  go_enter Tryz.func198, Tryz.ntmps198
  go_wp2
  go_ret
  exact ⟨rfl, below1 _ _⟩
theorem indexFunc_any (x : L FieldD) (k c g : Nat) (nm : ByteArray) (w : World) (hk : k ≤ x.l.length) (hx : LOk w 2 FieldD.cells x) (h : w.cell? ⟨g, 0, none⟩ = some (.string nm)) :
    Calls Tryz.prog 210 #[.slice x.A k c, .func (.func 198) #[] #[.pointer (some ⟨g, 0, none⟩)]] w fun e w' =>
      ∃ n : Int, e = .returned (.int .i64 n) ∧ decide (0 ≤ n) = Lib.containsS ((x.l.map FieldD.name).take k) nm ∧ Below w.heap.size w w' := by
  have HX := hi_ hx
  have hm := hx.1
  unfold maxLen at hm
  have hq : ∀ w', Below w.heap.size w w' → w'.cell? ⟨g, 0, none⟩ = some (.string nm) := fun w' hb => below_cell hb h
  have hcl : Hid (∀ n : Int, 0 ≤ n ∧ (∃ j, ∃ hj : j < x.l.length, j < k ∧ x.l[j].name = nm) → decide (0 ≤ n) = Lib.containsS ((x.l.map FieldD.name).take k) nm) := hi_ (by
    rintro n ⟨h0, j, hj, hjk, he⟩
    rw [decide_eq_true h0, eq_comm, Lib.containsS_iff, List.mem_take_iff_getElem]
    exact ⟨j, by simp; omega, by simp [he]⟩)
  have hcn : Hid ((∀ j (hj : j < x.l.length), j < k → x.l[j].name ≠ nm) → false = Lib.containsS ((x.l.map FieldD.name).take k) nm) := hi_ (by
    intro hn
    rw [eq_comm, Bool.eq_false_iff, Ne, Lib.containsS_iff, List.mem_take_iff_getElem]
    rintro ⟨j, hj, he⟩
    simp at hj he
    exact hn j (by omega) (by omega) he)
  clear hx h
  go_enter Tryz.func210, Tryz.ntmps210
  go_wp2
  go_loopw [5, 8] (fun _ iv wr => ∃ j : Nat, j ≤ k ∧ iv = .int .i64 j ∧ (∀ t (ht : t < x.l.length), t < j → x.l[t].name ≠ nm) ∧ Below w.heap.size w wr) (fun _ i _ => k - (intOf i).toNat)
  case atStart => exact ⟨0, Nat.zero_le _, rfl, fun t _ h => absurd h (Nat.not_lt_zero _), Below.refl _ _⟩
  case round =>
    obtain ⟨j, hj, rfl, hpre, hbel⟩ := hrel
    have HPre := hi_ hpre
    clear hpre
    by_cases hlt : j < k
    · obtain ⟨g2, of, hA, d0, d1⟩ := FieldD.at (HX.out.below hbel (Nat.le_refl _)) (show j < x.l.length by omega)
      simp only [hA]
      have hcell := hq wr hbel
      by_cases hy : x.l[j].name = nm
      · have HC := hi_ (hcl.out j ⟨by omega, j, by omega, hlt, hy⟩)
        have hy' := toList_true hy
        clear hy
        generalize x.l[j] = y at *
        go_wp2_with fail
        refine (sameName_any g y.name nm y.width _ hcell).mono ?_
        rintro e w1 ⟨rfl, hb1⟩
        rw [hy']
        go_wp2
        refine bodyPost_ret (v := .int .i64 (j : Int)) (by simp [results, Tryz.results210, go_sem]) rfl ⟨(j : Int), rfl, HC.out, below_step hbel hb1⟩
      · have hy' := toList_false hy
        have HN : Hid (∀ t (ht : t < x.l.length), t < j + 1 → x.l[t].name ≠ nm) := hi_ (fun t ht h => by
          rcases Nat.lt_succ_iff_lt_or_eq.1 h with h | rfl
          · exact HPre.out t ht h
          · exact hy)
        clear hy
        generalize x.l[j] = y at *
        go_wp2_with fail
        refine (sameName_any g y.name nm y.width _ hcell).mono ?_
        rintro e w1 ⟨rfl, hb1⟩
        rw [hy']
        have HB := hi_ (below_step hbel hb1)
        go_wp2
        go_roundw
        case rel => exact ⟨j + 1, by omega, by go_num, HN.out, HB.out⟩
        case measure => simp [intOf]; omega
    · have HC := hi_ (hcn.out (fun t ht h => HPre.out t ht (by omega)))
      go_wp2
      refine bodyPost_ret (v := .int .i64 (-1)) (by simp [results, Tryz.results210, go_sem]) rfl ⟨-1, rfl, HC.out, hbel⟩
theorem containsFunc_any (x : L FieldD) (k c g : Nat) (nm : ByteArray) (w : World) (hk : k ≤ x.l.length) (hx : LOk w 2 FieldD.cells x) (h : w.cell? ⟨g, 0, none⟩ = some (.string nm)) :
    Calls Tryz.prog 197 #[.slice x.A k c, .func (.func 198) #[] #[.pointer (some ⟨g, 0, none⟩)]] w fun e w' =>
      e = .returned (.bool (Lib.containsS ((x.l.map FieldD.name).take k) nm)) ∧ Below w.heap.size w w' := by
  go_enter Tryz.func197, Tryz.ntmps197
  go_wp2_with fail
  refine (indexFunc_any x k c g nm _ hk hx h).mono ?_
  rintro e w1 ⟨n, rfl, hn, hb1⟩
  have HN := hi_ hn
  have HB := hi_ hb1
  clear hn hb1
  go_wp2
  all_goals
    go_ret
    exact ⟨ret_bool HN.out, HB.out⟩
theorem fldM_at (l : List FieldD) (i : Nat) (h : i < l.length) : fldM l i = if ident l[i].name = false then some 6 else if okW l[i].width = false then some 10 else if dupB (l.map FieldD.name) i = true then some 7 else none := by
  rw [fldM, List.getElem?_eq_getElem h]
theorem dup_at (l : List FieldD) (i : Nat) (h : i < l.length) : Lib.containsS ((l.map FieldD.name).take i) l[i].name = dupB (l.map FieldD.name) i := by
  rw [dupB]; congr 1; simp [h]
theorem firstE_step {α : Type} {f : Nat → Option α} {k : Nat} (h : ∀ j, j < k → f j = none) (hk : f k = none) : ∀ j, j < k + 1 → f j = none := by
  intro j hj
  rcases Nat.lt_succ_iff_lt_or_eq.1 hj with h1 | rfl
  · exact h j h1
  · exact hk
theorem declaration_any (a : ActD) (w : World) (o : ActOk w a) (hc : a.params.l.length ≤ a.params.c) :
    Calls Tryz.prog 170 #[.agg #[.string a.name, .slice a.params.A a.params.l.length a.params.c, .slice a.body.A a.body.l.length a.body.c]] w fun e w' => e = .returned (.int .i64 (declarM a)) ∧ Below w.heap.size w w' := by
  have HS : Hid (a.name.size ≤ maxLen) := hi_ o.name
  have HP := hi_ o.params
  have HN : Hid (∀ f ∈ a.params.l, f.name.size ≤ maxLen) := hi_ o.pnames
  obtain ⟨W, hW, hw, HB, hp⟩ := box1 w #[.string a.name, .slice a.params.A a.params.l.length a.params.c, .slice a.body.A a.body.l.length a.body.c] 124
  have HW := hi_ hw
  clear hw o
  have HR := hi_ (declarM.eq_1 a)
  have hmf : ∀ (fn : Fn) (first cap : Array Value) (w : World), (Instr.makeFunc fn first cap).run Tryz.prog w = .ok (.func fn first cap) w := fun _ _ _ _ => rfl
  go_enter Tryz.func170, Tryz.ntmps170
  go_upto_region 1 with fail
  rw [← hW]
  clear hW
  go_wp2_with fail
  refine (isIdent_any a.name _ HS.out).mono ?_
  rintro e w' ⟨rfl, rfl⟩
  cases h1 : identM a.name.data.toList
  · replace HR := hi_ (HR.out.trans (if_pos (show ident a.name = false from h1)))
    go_wp2
    go_ret
    exact ⟨by rw [HR.out]; rfl, below_step HW.out HB⟩
  replace HR := hi_ (HR.out.trans (if_neg (show ¬ ident a.name = false by rw [show ident a.name = true from h1]; simp)))
  clear h1
  by_cases h2 : 4 < a.params.l.length ∨ 12 < a.body.l.length
  · replace HR := hi_ (HR.out.trans (if_pos h2))
    rcases h2 with h2 | h2
    all_goals
      go_wp2
      all_goals
        go_ret
        exact ⟨by rw [HR.out]; rfl, below_step HW.out HB⟩
  replace HR := hi_ (HR.out.trans (if_neg h2))
  have h3 : a.params.l.length ≤ 4 := by omega
  have h4 : a.body.l.length ≤ 12 := by omega
  clear h2
  have H0 := hi_ HB
  go_wp2
  go_loopw [3, 4, 24] (fun _ _ iv wr => ∃ k : Nat, k ≤ a.params.l.length ∧ iv = .int .i64 k ∧ (∀ j, j < k → fldM a.params.l j = none) ∧ Below W.heap.size W wr) (fun _ _ i _ => a.params.l.length - (intOf i).toNat)
  case atStart => exact ⟨0, Nat.zero_le _, rfl, fun j h => absurd h (Nat.not_lt_zero _), H0.out⟩
  case round =>
    clear HB
    obtain ⟨k, hk, rfl, hpre, HB⟩ := hrel
    have HPre := hi_ hpre
    clear hpre
    by_cases hlt : k < a.params.l.length
    · obtain ⟨g, of, hA, d0, d1⟩ := FieldD.at (HP.out.below (below_step HW.out HB) (Nat.le_refl _)) hlt
      have HF := hi_ (fldM_at a.params.l k hlt)
      have HD := hi_ (dup_at a.params.l k hlt)
      have HNk := hi_ (HN.out _ (List.getElem_mem hlt))
      have hca := @World.cell?_alloc_some
      generalize hAA : a.params.A = pA at *
      subst hA
      generalize a.params.l[k] = y at *
      go_wp2_with fail
      refine (isIdent_any y.name _ HNk.out).mono ?_
      rintro e w' ⟨rfl, rfl⟩
      cases h1 : identM y.name.data.toList
      · have HE := hi_ (HF.out.trans (if_pos (show ident y.name = false from h1)))
        have HR2 : Hid (declarM a = 6) := hi_ (by rw [HR.out, firstE_some hlt HPre.out HE.out])
        go_wp2
        go_ret
        exact ⟨by rw [HR2.out]; rfl, below_step HW.out (by first | exact HB | exact below_alloc HB _ | exact ba2 HB | exact ba3 HB)⟩
      have HF1 := hi_ (HF.out.trans (if_neg (show ¬ ident y.name = false by rw [show ident y.name = true from h1]; simp)))
      clear HF h1
      cases h2 : okW y.width
      · have HE := hi_ (HF1.out.trans (if_pos h2))
        have HR2 : Hid (declarM a = 10) := hi_ (by rw [HR.out, firstE_some hlt HPre.out HE.out])
        rcases okW_not.1 h2 with h3 | h3
        all_goals
          go_wp2
          go_ret
          exact ⟨by rw [HR2.out]; rfl, below_step HW.out (by first | exact HB | exact below_alloc HB _ | exact ba2 HB | exact ba3 HB)⟩
      have HF2 := hi_ (HF1.out.trans (if_neg (by rw [h2]; simp)))
      clear HF1
      obtain ⟨w1, w2⟩ := okW_iff.1 h2
      have hi1 : (k : Int) ≤ (a.params.l.length : Int) := by omega
      have hi2 : k ≤ a.params.c := by omega
      go_wp2_with fail
      have hcf := containsFunc_any a.params k a.params.c wr.heap.size y.name (wr.alloc (.cells #[.string y.name, .int .i64 y.width] 135)) hk (HP.out.below (below_step HW.out (by first | exact HB | exact below_alloc HB _ | exact ba2 HB | exact ba3 HB)) (Nat.le_refl _)) (by simp)
      rw [hAA] at hcf
      refine hcf.mono ?_
      clear hcf
      rintro e w3 ⟨rfl, hbN⟩
      replace HB := below_step (by first | exact HB | exact below_alloc HB _ | exact ba2 HB | exact ba3 HB) hbN
      clear hbN
      rw [HD.out]
      cases h4 : dupB (a.params.l.map FieldD.name) k
      · have HE := hi_ (HF2.out.trans (if_neg (by rw [h4]; simp)))
        go_wp2
        go_roundw
        case rel => exact ⟨k + 1, by omega, by go_num, firstE_step HPre.out HE.out, HB⟩
        case measure => simp [intOf]; omega
      · have HE := hi_ (HF2.out.trans (if_pos h4))
        have HR2 : Hid (declarM a = 7) := hi_ (by rw [HR.out, firstE_some hlt HPre.out HE.out])
        go_wp2
        go_ret
        exact ⟨by rw [HR2.out]; rfl, below_step HW.out HB⟩
    · have e : k = a.params.l.length := by omega
      have HR2 : Hid (declarM a = 0) := hi_ (by rw [HR.out, firstE_none (by rw [← e]; exact HPre.out)])
      go_wp2
      go_ret
      exact ⟨by rw [HR2.out]; rfl, below_step HW.out HB⟩
theorem box3 (w : World) (cs : Array Value) (t : TypeId) (cs2 : Array Value) (t2 : TypeId) (cs3 : Array Value) (t3 : TypeId) : ∃ W, W = ((w.alloc (.cells cs t)).alloc (.cells cs2 t2)).alloc (.cells cs3 t3) ∧ Below w.heap.size w W ∧ Below W.heap.size W W ∧
    ∀ w', Below W.heap.size W w' → (∀ i, i < cs.size → w'.cell? ⟨w.heap.size, i, none⟩ = cs[i]?) ∧ (∀ i, i < cs2.size → w'.cell? ⟨w.heap.size + 1, i, none⟩ = cs2[i]?) ∧ ∀ i, i < cs3.size → w'.cell? ⟨w.heap.size + 1 + 1, i, none⟩ = cs3[i]? := by
  obtain ⟨W1, e1, b1, _, h1⟩ := box1 w cs t
  obtain ⟨W2, e2, b2, _, h2⟩ := box1 W1 cs2 t2
  obtain ⟨W3, e3, b3, _, h3⟩ := box1 W2 cs3 t3
  have s1 : W1.heap.size = w.heap.size + 1 := by rw [e1]; simp
  have s2 : W2.heap.size = w.heap.size + 1 + 1 := by rw [e2, World.size_alloc, s1]
  rw [s1] at h2
  rw [s2] at h3
  exact ⟨W3, by rw [e3, e2, e1], below_step b1 (below_step b2 b3), Below.refl _ _, fun w' hb => ⟨h1 w' (below_step b2 (below_step b3 hb)), h2 w' (below_step b3 hb), h3 w' hb⟩⟩
theorem regAt_cases (p : ProgD) (i : Int) : ((i < 0 ∨ (p.registers.l.length : Int) ≤ i) ∧ regAt p i = none) ∨ ∃ k : Nat, ∃ hk : k < p.registers.l.length, i = k ∧ regAt p i = some p.registers.l[k] := by
  by_cases h1 : i < 0
  · exact .inl ⟨.inl h1, by rw [regAt, if_pos h1]⟩
  · obtain ⟨k, rfl⟩ : ∃ k : Nat, i = k := ⟨i.toNat, by omega⟩
    by_cases h2 : k < p.registers.l.length
    · exact .inr ⟨k, h2, rfl, by rw [regAt, if_neg h1]; simp [h2]⟩
    · exact .inl ⟨.inr (by omega), by rw [regAt, if_neg h1]; simp [List.getElem?_eq_none (Nat.le_of_not_lt h2)]⟩
@[reducible] def stmtCells (s : StmtD) : Array Value := #[.int .i64 s.kind, .int .i64 s.dh, .int .i64 s.df, .int .i64 s.reg, .int .i64 s.hdr, .slice s.index.A s.index.l.length s.index.c, .slice s.value.A s.value.l.length s.value.c]
theorem st_assign (p : ProgD) (ps : L FieldD) (kind dh df rg hd : Int) (ix vl : L NodeD) (w : World) (o : ProgOk w p) (hps : LOk w 2 FieldD.cells ps) (os : StmtOk w ⟨kind, dh, df, rg, hd, ix, vl⟩) (hk : kind = 1) :
    Calls Tryz.prog 171 #[.agg (scopeCells p ps), .agg (stmtCells ⟨kind, dh, df, rg, hd, ix, vl⟩)] w fun e w' => e = .returned (.int .i64 (stmtM p ps.l ⟨kind, dh, df, rg, hd, ix, vl⟩)) ∧ Below w.heap.size w w' := by
  have HO := hi_ o
  have HP := hi_ hps
  have HX := hi_ os.index
  have HV := hi_ os.value
  clear o hps os
  obtain ⟨W, hW, hw, HB, hp⟩ := box3 w (scopeCells p ps) 219 (stmtCells ⟨kind, dh, df, rg, hd, ix, vl⟩) 167 (progCells p) 31
  have HW := hi_ hw
  clear hw
  have HR := hi_ (stmtM.eq_1 p ps.l ⟨kind, dh, df, rg, hd, ix, vl⟩)
  simp only at HX HV
  subst hk
  replace HR := hi_ (HR.out.trans (if_pos rfl))
  have hr : rg < 0 ∨ (0 ≤ rg ∧ rg < p.registers.l.length) ∨ (0 ≤ rg ∧ (p.registers.l.length : Int) ≤ rg) := by omega
  rcases hm : declM p dh df with _ | wd
  · replace HR : Hid (stmtM p ps.l ⟨1, dh, df, rg, hd, ix, vl⟩ = 8) := hi_ (by rw [HR.out]; simp only [hm])
    rcases hr with hr | ⟨hr, hr2⟩ | ⟨hr, hr2⟩
    all_goals
      go_enter Tryz.func171, Tryz.ntmps171
      go_upto_region 2 with fail
      rw [← hW]
      clear hW
      go_wp2_with fail
      refine (awidth_any p dh df _ (HO.out.below (below_step HW.out (by first | exact HB | exact below_alloc HB _ | exact ba2 HB | exact ba3 HB)))).mono ?_
      rintro e w1 ⟨rfl, hbN⟩
      replace HB := below_step (by first | exact HB | exact below_alloc HB _ | exact ba2 HB | exact ba3 HB) hbN
      clear hbN
      rw [hm]
      simp only [widthV, Option.getD_none, Option.isSome_none]
      go_wp2
      go_ret
      exact ⟨by rw [HR.out]; rfl, below_step HW.out HB⟩
  · replace HR : Hid (stmtM p ps.l ⟨1, dh, df, rg, hd, ix, vl⟩ = sizedM p ps.l vl.l wd) := hi_ (by rw [HR.out]; simp only [hm])
    rcases hr with hr | ⟨hr, hr2⟩ | ⟨hr, hr2⟩
    all_goals
      go_enter Tryz.func171, Tryz.ntmps171
      go_upto_region 2 with fail
      rw [← hW]
      clear hW
      go_wp2_with fail
      refine (awidth_any p dh df _ (HO.out.below (below_step HW.out (by first | exact HB | exact below_alloc HB _ | exact ba2 HB | exact ba3 HB)))).mono ?_
      rintro e w1 ⟨rfl, hbN⟩
      replace HB := below_step (by first | exact HB | exact below_alloc HB _ | exact ba2 HB | exact ba3 HB) hbN
      clear hbN
      rw [hm]
      simp only [widthV, Option.getD_some, Option.isSome_some]
      go_wp2_with fail
      refine (avalue_any p ps vl wd _ (HO.out.below (below_step HW.out (by first | exact HB | exact below_alloc HB _ | exact ba2 HB | exact ba3 HB))) (HP.out.below (below_step HW.out (by first | exact HB | exact below_alloc HB _ | exact ba2 HB | exact ba3 HB)) (Nat.le_refl _)) (HV.out.below (below_step HW.out (by first | exact HB | exact below_alloc HB _ | exact ba2 HB | exact ba3 HB)) (Nat.le_refl _))).mono ?_
      rintro e w2 ⟨rfl, hbN⟩
      replace HB := below_step (by first | exact HB | exact below_alloc HB _ | exact ba2 HB | exact ba3 HB) hbN
      clear hbN
      go_wp2
      go_ret
      exact ⟨by rw [HR.out]; rfl, below_step HW.out HB⟩
theorem st_hdr (p : ProgD) (ps : L FieldD) (kind dh df rg hd : Int) (ix vl : L NodeD) (w : World) (o : ProgOk w p) (hps : LOk w 2 FieldD.cells ps) (os : StmtOk w ⟨kind, dh, df, rg, hd, ix, vl⟩) (hk : kind = 2 ∨ kind = 3) :
    Calls Tryz.prog 171 #[.agg (scopeCells p ps), .agg (stmtCells ⟨kind, dh, df, rg, hd, ix, vl⟩)] w fun e w' => e = .returned (.int .i64 (stmtM p ps.l ⟨kind, dh, df, rg, hd, ix, vl⟩)) ∧ Below w.heap.size w w' := by
  have HO := hi_ o
  have HP := hi_ hps
  have HX := hi_ os.index
  have HV := hi_ os.value
  clear o hps os
  obtain ⟨W, hW, hw, HB, hp⟩ := box3 w (scopeCells p ps) 219 (stmtCells ⟨kind, dh, df, rg, hd, ix, vl⟩) 167 (progCells p) 31
  have HW := hi_ hw
  clear hw
  have HR := hi_ (stmtM.eq_1 p ps.l ⟨kind, dh, df, rg, hd, ix, vl⟩)
  simp only at HX HV
  have hr : rg < 0 ∨ (0 ≤ rg ∧ rg < p.registers.l.length) ∨ (0 ≤ rg ∧ (p.registers.l.length : Int) ≤ rg) := by omega
  replace HR := hi_ (HR.out.trans ((if_neg (show ¬ kind = 1 by omega)).trans (if_pos hk)))
  have hh : hd < 0 ∨ (0 ≤ hd ∧ (p.headers.l.length : Int) ≤ hd) ∨ (0 ≤ hd ∧ hd < p.headers.l.length) := by omega
  rcases hh with hh | ⟨hh, hh2⟩ | ⟨hh, hh2⟩
  all_goals
    first
      | replace HR := hi_ (HR.out.trans (if_pos (Or.inl hh)))
      | replace HR := hi_ (HR.out.trans (if_pos (Or.inr hh2)))
      | replace HR := hi_ (HR.out.trans (if_neg (show ¬ (hd < 0 ∨ (p.headers.l.length : Int) ≤ hd) by omega)))
    rcases hk with rfl | rfl
    all_goals
      rcases hr with hr | ⟨hr, hr2⟩ | ⟨hr, hr2⟩
      all_goals
        go_enter Tryz.func171, Tryz.ntmps171
        go_upto_region 2 with fail
        rw [← hW]
        clear hW
        go_wp2_with fail
        refine (awidth_any p dh df _ (HO.out.below (below_step HW.out (by first | exact HB | exact below_alloc HB _ | exact ba2 HB | exact ba3 HB)))).mono ?_
        rintro e w1 ⟨rfl, hbN⟩
        replace HB := below_step (by first | exact HB | exact below_alloc HB _ | exact ba2 HB | exact ba3 HB) hbN
        clear hbN
        simp only [widthV]
        go_wp2
        go_ret
        exact ⟨by rw [HR.out]; rfl, below_step HW.out HB⟩
theorem st_other (p : ProgD) (ps : L FieldD) (kind dh df rg hd : Int) (ix vl : L NodeD) (w : World) (o : ProgOk w p) (hps : LOk w 2 FieldD.cells ps) (os : StmtOk w ⟨kind, dh, df, rg, hd, ix, vl⟩) (h1 : kind ≠ 1) (h2 : kind ≠ 2) (h3 : kind ≠ 3) (h4 : kind ≠ 4) (h5 : kind ≠ 5) :
    Calls Tryz.prog 171 #[.agg (scopeCells p ps), .agg (stmtCells ⟨kind, dh, df, rg, hd, ix, vl⟩)] w fun e w' => e = .returned (.int .i64 (stmtM p ps.l ⟨kind, dh, df, rg, hd, ix, vl⟩)) ∧ Below w.heap.size w w' := by
  have HO := hi_ o
  have HP := hi_ hps
  have HX := hi_ os.index
  have HV := hi_ os.value
  clear o hps os
  obtain ⟨W, hW, hw, HB, hp⟩ := box3 w (scopeCells p ps) 219 (stmtCells ⟨kind, dh, df, rg, hd, ix, vl⟩) 167 (progCells p) 31
  have HW := hi_ hw
  clear hw
  have HR := hi_ (stmtM.eq_1 p ps.l ⟨kind, dh, df, rg, hd, ix, vl⟩)
  simp only at HX HV
  have hr : rg < 0 ∨ (0 ≤ rg ∧ rg < p.registers.l.length) ∨ (0 ≤ rg ∧ (p.registers.l.length : Int) ≤ rg) := by omega
  replace HR := hi_ (HR.out.trans ((if_neg h1).trans ((if_neg (fun h => h.elim h2 h3)).trans ((if_neg h4).trans (if_neg h5)))))
  have k1 : (kind == 1) = false := beq_eq_false_iff_ne.2 h1
  have k2 : (kind == 2) = false := beq_eq_false_iff_ne.2 h2
  have k3 : (kind == 3) = false := beq_eq_false_iff_ne.2 h3
  have k4 : (kind == 4) = false := beq_eq_false_iff_ne.2 h4
  have k5 : (kind == 5) = false := beq_eq_false_iff_ne.2 h5
  clear h1 h2 h3 h4 h5
  rcases hr with hr | ⟨hr, hr2⟩ | ⟨hr, hr2⟩
  all_goals
    go_enter Tryz.func171, Tryz.ntmps171
    go_upto_region 2 with fail
    rw [← hW]
    clear hW
    go_wp2_with fail
    refine (awidth_any p dh df _ (HO.out.below (below_step HW.out (by first | exact HB | exact below_alloc HB _ | exact ba2 HB | exact ba3 HB)))).mono ?_
    rintro e w1 ⟨rfl, hbN⟩
    replace HB := below_step (by first | exact HB | exact below_alloc HB _ | exact ba2 HB | exact ba3 HB) hbN
    clear hbN
    simp only [widthV]
    go_wp2
    go_ret
    exact ⟨by rw [HR.out]; rfl, below_step HW.out HB⟩
theorem st_read (p : ProgD) (ps : L FieldD) (kind dh df rg hd : Int) (ix vl : L NodeD) (w : World) (o : ProgOk w p) (hps : LOk w 2 FieldD.cells ps) (os : StmtOk w ⟨kind, dh, df, rg, hd, ix, vl⟩) (hk : kind = 4) :
    Calls Tryz.prog 171 #[.agg (scopeCells p ps), .agg (stmtCells ⟨kind, dh, df, rg, hd, ix, vl⟩)] w fun e w' => e = .returned (.int .i64 (stmtM p ps.l ⟨kind, dh, df, rg, hd, ix, vl⟩)) ∧ Below w.heap.size w w' := by
  have HO := hi_ o
  have HP := hi_ hps
  have HX := hi_ os.index
  have HV := hi_ os.value
  clear o hps os
  obtain ⟨W, hW, hw, HB, hp⟩ := box3 w (scopeCells p ps) 219 (stmtCells ⟨kind, dh, df, rg, hd, ix, vl⟩) 167 (progCells p) 31
  have HW := hi_ hw
  clear hw
  have HR := hi_ (stmtM.eq_1 p ps.l ⟨kind, dh, df, rg, hd, ix, vl⟩)
  simp only at HX HV
  subst hk
  replace HR := hi_ (HR.out.trans ((if_neg (show ¬ (4 : Int) = 1 by decide)).trans ((if_neg (show ¬ ((4 : Int) = 2 ∨ (4 : Int) = 3) by decide)).trans (if_pos rfl))))
  rcases regAt_cases p rg with ⟨hr, hn⟩ | ⟨k, hk, rfl, hn⟩
  · replace HR : Hid (stmtM p ps.l ⟨4, dh, df, rg, hd, ix, vl⟩ = 8) := hi_ (by rw [HR.out]; simp only [hn])
    clear hn
    have hr : rg < 0 ∨ (0 ≤ rg ∧ (p.registers.l.length : Int) ≤ rg) := by omega
    rcases hr with hr | ⟨hr, hr2⟩
    all_goals
      go_enter Tryz.func171, Tryz.ntmps171
      go_upto_region 2 with fail
      rw [← hW]
      clear hW
      go_wp2_with fail
      refine (awidth_any p dh df _ (HO.out.below (below_step HW.out (by first | exact HB | exact below_alloc HB _ | exact ba2 HB | exact ba3 HB)))).mono ?_
      rintro e w1 ⟨rfl, hbN⟩
      replace HB := below_step (by first | exact HB | exact below_alloc HB _ | exact ba2 HB | exact ba3 HB) hbN
      clear hbN
      simp only [widthV]
      go_wp2
      go_ret
      exact ⟨by rw [HR.out]; rfl, below_step HW.out HB⟩
  rcases hm : declM p dh df with _ | wd
  · replace HR : Hid (stmtM p ps.l ⟨4, dh, df, k, hd, ix, vl⟩ = 8) := hi_ (by rw [HR.out]; simp only [hn, hm])
    go_enter Tryz.func171, Tryz.ntmps171
    go_upto_region 2 with fail
    rw [← hW]
    clear hW
    go_wp2_with fail
    refine (awidth_any p dh df _ (HO.out.below (below_step HW.out (by first | exact HB | exact below_alloc HB _ | exact ba2 HB | exact ba3 HB)))).mono ?_
    rintro e w1 ⟨rfl, hbN⟩
    replace HB := below_step (by first | exact HB | exact below_alloc HB _ | exact ba2 HB | exact ba3 HB) hbN
    clear hbN
    rw [hm]
    simp only [widthV, Option.getD_none, Option.isSome_none]
    go_wp2
    go_ret
    exact ⟨by rw [HR.out]; rfl, below_step HW.out HB⟩
  obtain ⟨g, of, hA, hq⟩ := RegD.atA (HO.out.registers.below HW.out (Nat.le_refl _)) hk
  have HAA := hi_ hA
  clear hA
  replace HR : Hid (stmtM p ps.l ⟨4, dh, df, k, hd, ix, vl⟩ = if (exprM p ps.l ix.l).2 ≠ 0 then (exprM p ps.l ix.l).2 else if wd ≠ p.registers.l[k].width then 10 else 0) := hi_ (by rw [HR.out]; simp only [hn, hm])
  clear hn
  generalize p.registers.l[k] = y at *
  obtain ⟨yn, yw, ys⟩ := y
  simp only at HR hq
  have hbad : Hid (∀ r : Int × Int, r.2 ≠ 0 → exprM p ps.l ix.l = r → stmtM p ps.l ⟨4, dh, df, k, hd, ix, vl⟩ = r.2) := hi_ (by
    intro r h1 h2
    rw [HR.out, h2, if_pos h1])
  go_enter Tryz.func171, Tryz.ntmps171
  go_upto_region 2 with fail
  rw [← hW]
  clear hW
  go_wp2_with fail
  refine (awidth_any p dh df _ (HO.out.below (below_step HW.out (by first | exact HB | exact below_alloc HB _ | exact ba2 HB | exact ba3 HB)))).mono ?_
  rintro e w1 ⟨rfl, hbN⟩
  replace HB := below_step (by first | exact HB | exact below_alloc HB _ | exact ba2 HB | exact ba3 HB) hbN
  clear hbN
  rw [hm]
  simp only [widthV, Option.getD_some, Option.isSome_some]
  go_wp2_with fail
  refine (exprCheck_any p ps ix _ (HO.out.below (below_step HW.out (by first | exact HB | exact below_alloc HB _ | exact ba2 HB | exact ba3 HB))) (HP.out.below (below_step HW.out (by first | exact HB | exact below_alloc HB _ | exact ba2 HB | exact ba3 HB)) (Nat.le_refl _)) (HX.out.below (below_step HW.out (by first | exact HB | exact below_alloc HB _ | exact ba2 HB | exact ba3 HB)) (Nat.le_refl _))).mono ?_
  rintro e w2 ⟨rfl, hbN⟩
  replace HB := below_step (by first | exact HB | exact below_alloc HB _ | exact ba2 HB | exact ba3 HB) hbN
  clear hbN
  generalize hr : exprM p ps.l ix.l = r at *
  obtain ⟨a, c⟩ := r
  simp only at HR
  by_cases k5 : c = 0
  case neg =>
    have k5' : (c == 0) = false := beq_eq_false_iff_ne.2 k5
    have HR2 := hi_ (hbad.out _ k5 rfl)
    go_wp2
    go_ret
    exact ⟨by rw [HR2.out]; rfl, below_step HW.out HB⟩
  subst k5
  have hp2 := fun w' h => hp w' (below_step HB h)
  have hq2 := fun w' h => hq w' (below_step HB h)
  have HVV := hi_ HB
  have H0 := hi_ (Below.refl w2.heap.size w2)
  clear HB hq hp hbad
  have hp3 := hp2 w2 H0.out
  have hq3 := hq2 w2 H0.out
  simp only [progCells, HAA.out] at hp3
  by_cases k6 : wd = yw
  · subst k6
    replace HR := hi_ (HR.out.trans (by simp : _ = (0 : Int)))
    go_wp2
    go_ret
    exact ⟨by rw [HR.out]; rfl, below_step HW.out HVV.out⟩
  · have k6' : (wd == yw) = false := beq_eq_false_iff_ne.2 k6
    replace HR := hi_ (HR.out.trans (by simp [k6] : _ = (10 : Int)))
    go_wp2
    go_ret
    exact ⟨by rw [HR.out]; rfl, below_step HW.out HVV.out⟩
theorem st_write (p : ProgD) (ps : L FieldD) (kind dh df rg hd : Int) (ix vl : L NodeD) (w : World) (o : ProgOk w p) (hps : LOk w 2 FieldD.cells ps) (os : StmtOk w ⟨kind, dh, df, rg, hd, ix, vl⟩) (hk : kind = 5) :
    Calls Tryz.prog 171 #[.agg (scopeCells p ps), .agg (stmtCells ⟨kind, dh, df, rg, hd, ix, vl⟩)] w fun e w' => e = .returned (.int .i64 (stmtM p ps.l ⟨kind, dh, df, rg, hd, ix, vl⟩)) ∧ Below w.heap.size w w' := by
  have HO := hi_ o
  have HP := hi_ hps
  have HX := hi_ os.index
  have HV := hi_ os.value
  clear o hps os
  obtain ⟨W, hW, hw, HB, hp⟩ := box3 w (scopeCells p ps) 219 (stmtCells ⟨kind, dh, df, rg, hd, ix, vl⟩) 167 (progCells p) 31
  have HW := hi_ hw
  clear hw
  have HR := hi_ (stmtM.eq_1 p ps.l ⟨kind, dh, df, rg, hd, ix, vl⟩)
  simp only at HX HV
  subst hk
  replace HR := hi_ (HR.out.trans ((if_neg (show ¬ (5 : Int) = 1 by decide)).trans ((if_neg (show ¬ ((5 : Int) = 2 ∨ (5 : Int) = 3) by decide)).trans ((if_neg (show ¬ (5 : Int) = 4 by decide)).trans (if_pos rfl)))))
  rcases regAt_cases p rg with ⟨hr, hn⟩ | ⟨k, hk, rfl, hn⟩
  · replace HR : Hid (stmtM p ps.l ⟨5, dh, df, rg, hd, ix, vl⟩ = 8) := hi_ (by rw [HR.out]; simp only [hn])
    clear hn
    have hr : rg < 0 ∨ (0 ≤ rg ∧ (p.registers.l.length : Int) ≤ rg) := by omega
    rcases hr with hr | ⟨hr, hr2⟩
    all_goals
      go_enter Tryz.func171, Tryz.ntmps171
      go_upto_region 2 with fail
      rw [← hW]
      clear hW
      go_wp2_with fail
      refine (awidth_any p dh df _ (HO.out.below (below_step HW.out (by first | exact HB | exact below_alloc HB _ | exact ba2 HB | exact ba3 HB)))).mono ?_
      rintro e w1 ⟨rfl, hbN⟩
      replace HB := below_step (by first | exact HB | exact below_alloc HB _ | exact ba2 HB | exact ba3 HB) hbN
      clear hbN
      simp only [widthV]
      go_wp2
      go_ret
      exact ⟨by rw [HR.out]; rfl, below_step HW.out HB⟩
  obtain ⟨g, of, hA, hq⟩ := RegD.atA (HO.out.registers.below HW.out (Nat.le_refl _)) hk
  have HAA := hi_ hA
  clear hA
  replace HR : Hid (stmtM p ps.l ⟨5, dh, df, k, hd, ix, vl⟩ = if (exprM p ps.l ix.l).2 ≠ 0 then (exprM p ps.l ix.l).2 else sizedM p ps.l vl.l p.registers.l[k].width) := hi_ (by rw [HR.out]; simp only [hn])
  clear hn
  generalize p.registers.l[k] = y at *
  obtain ⟨yn, yw, ys⟩ := y
  simp only at HR hq
  have hbad : Hid (∀ r : Int × Int, r.2 ≠ 0 → exprM p ps.l ix.l = r → stmtM p ps.l ⟨5, dh, df, k, hd, ix, vl⟩ = r.2) := hi_ (by
    intro r h1 h2
    rw [HR.out, h2, if_pos h1])
  go_enter Tryz.func171, Tryz.ntmps171
  go_upto_region 2 with fail
  rw [← hW]
  clear hW
  go_wp2_with fail
  refine (awidth_any p dh df _ (HO.out.below (below_step HW.out (by first | exact HB | exact below_alloc HB _ | exact ba2 HB | exact ba3 HB)))).mono ?_
  rintro e w1 ⟨rfl, hbN⟩
  replace HB := below_step (by first | exact HB | exact below_alloc HB _ | exact ba2 HB | exact ba3 HB) hbN
  clear hbN
  simp only [widthV]
  go_wp2_with fail
  refine (exprCheck_any p ps ix _ (HO.out.below (below_step HW.out (by first | exact HB | exact below_alloc HB _ | exact ba2 HB | exact ba3 HB))) (HP.out.below (below_step HW.out (by first | exact HB | exact below_alloc HB _ | exact ba2 HB | exact ba3 HB)) (Nat.le_refl _)) (HX.out.below (below_step HW.out (by first | exact HB | exact below_alloc HB _ | exact ba2 HB | exact ba3 HB)) (Nat.le_refl _))).mono ?_
  rintro e w2 ⟨rfl, hbN⟩
  replace HB := below_step (by first | exact HB | exact below_alloc HB _ | exact ba2 HB | exact ba3 HB) hbN
  clear hbN
  generalize hr : exprM p ps.l ix.l = r at *
  obtain ⟨a, c⟩ := r
  simp only at HR
  by_cases k5 : c = 0
  case neg =>
    have k5' : (c == 0) = false := beq_eq_false_iff_ne.2 k5
    have HR2 := hi_ (hbad.out _ k5 rfl)
    go_wp2
    go_ret
    exact ⟨by rw [HR2.out]; rfl, below_step HW.out HB⟩
  subst k5
  have hp2 := fun w' h => hp w' (below_step HB h)
  have hq2 := fun w' h => hq w' (below_step HB h)
  have HVV := hi_ HB
  have H0 := hi_ (Below.refl w2.heap.size w2)
  clear HB hq hp hbad
  replace HR := hi_ (HR.out.trans (by simp : _ = sizedM p ps.l vl.l yw))
  simp only [progCells, HAA.out] at hp2
  have hn1 : (k : Int) < (p.registers.l.length : Int) := by omega
  have hp3 := hp2 w2 H0.out
  go_wp2
  clear hp3
  go_region_held3 (fun w' => Below w2.heap.size w2 w') (first | exact H0.out | exact below_drew H0.out | (exact below_step (by assumption) (by assumption)) | assumption)
    (first | (go_at_call 200; refine (avalue_any p ps vl yw _ (HO.out.below (below_step HW.out (below_step HVV.out (by assumption)))) (HP.out.below (below_step HW.out (below_step HVV.out (by assumption))) (Nat.le_refl _)) (HV.out.below (below_step HW.out (below_step HVV.out (by assumption))) (Nat.le_refl _))).mono ?_; rintro e w1 ⟨rfl, hb1⟩))
  have HB5 : Hid (Below w2.heap.size w2 _) := hi_ (by assumption)
  go_wp2
  go_ret
  exact ⟨by rw [HR.out]; rfl, below_step HW.out (below_step HVV.out HB5.out)⟩
theorem statement_any (p : ProgD) (ps : L FieldD) (s : StmtD) (w : World) (o : ProgOk w p) (hps : LOk w 2 FieldD.cells ps) (os : StmtOk w s) :
    Calls Tryz.prog 171 #[.agg (scopeCells p ps), .agg (stmtCells s)] w fun e w' => e = .returned (.int .i64 (stmtM p ps.l s)) ∧ Below w.heap.size w w' := by
  obtain ⟨kind, dh, df, rg, hd, ix, vl⟩ := s
  by_cases h1 : kind = 1
  · exact st_assign p ps kind dh df rg hd ix vl w o hps os h1
  by_cases h2 : kind = 2
  · exact st_hdr p ps kind dh df rg hd ix vl w o hps os (.inl h2)
  by_cases h3 : kind = 3
  · exact st_hdr p ps kind dh df rg hd ix vl w o hps os (.inr h3)
  by_cases h4 : kind = 4
  · exact st_read p ps kind dh df rg hd ix vl w o hps os h4
  by_cases h5 : kind = 5
  · exact st_write p ps kind dh df rg hd ix vl w o hps os h5
  exact st_other p ps kind dh df rg hd ix vl w o hps os h1 h2 h3 h4 h5
def stAtM (p : ProgD) (a : ActD) (k : Nat) : Option (Int × Int) := match a.body.l[k]? with
  | none => none
  | some s => if stmtM p a.params.l s ≠ 0 then some ((k : Int), stmtM p a.params.l s) else none
theorem actM_eq (p : ProgD) (a : ActD) : actM p a = if declarM a ≠ 0 then (-1, declarM a) else match firstE a.body.l.length (stAtM p a) with
    | some r => r
    | none => (0, 0) := rfl
theorem stAtM_at (p : ProgD) (a : ActD) (k : Nat) (h : k < a.body.l.length) : stAtM p a k = if stmtM p a.params.l a.body.l[k] ≠ 0 then some ((k : Int), stmtM p a.params.l a.body.l[k]) else none := by
  rw [stAtM, List.getElem?_eq_getElem h]
theorem actionCheck_any (p : ProgD) (i : Nat) (hi : i < p.actions.l.length) (w : World) (o : ProgOk w p) (hc : ∀ a ∈ p.actions.l, a.params.l.length ≤ a.params.c) :
    Calls Tryz.prog 131 #[.agg (progCells p), .int .i64 i] w fun e w' => e = .returned (.tuple #[.int .i64 (actM p p.actions.l[i]).1, .int .i64 (actM p p.actions.l[i]).2]) ∧ Below w.heap.size w w' := by
  have HO := hi_ o
  obtain ⟨W, hW, hw, HB, hp⟩ := box1 w (progCells p) 31
  have HW := hi_ hw
  have HA : Hid (ActOk W p.actions.l[i]) := hi_ ((o.act _ (List.getElem_mem hi)).below hw)
  have HC := hi_ (hc _ (List.getElem_mem hi))
  have HR := hi_ (actM_eq p p.actions.l[i])
  have HS := hi_ (stAtM_at p p.actions.l[i])
  obtain ⟨g, of, hA, hq⟩ := ActD.atA (o.actions.below hw (Nat.le_refl _)) hi
  have hn1 : (i : Int) < (p.actions.l.length : Int) := by omega
  clear o hw hc
  generalize p.actions.l[i] = a at *
  obtain ⟨an, ⟨pl, pA, pc⟩, ⟨bl, bA, bc⟩⟩ := a
  simp only at HR HS hq
  have HAA := hi_ hA
  simp only [progCells, hA] at hp hW ⊢
  clear hA
  go_enter Tryz.func131, Tryz.ntmps131
  go_upto_region 1 with fail
  rw [← hW]
  clear hW
  refine Exists.elim (box1 W #[.string an, .slice pA pl.length pc, .slice bA bl.length bc] 124) ?_
  rintro U ⟨hU, hu, hUU, hc⟩
  go_wp2_with fail
  rw [← hU]
  clear hU
  have HWU := hi_ (below_step HW.out hu)
  have HU := hi_ hu
  have hp2 := fun w' h => hp w' (below_step hu h)
  replace HB := hUU
  clear hp hUU hu
  refine (declaration_any ⟨an, ⟨pl, pA, pc⟩, ⟨bl, bA, bc⟩⟩ _ (HA.out.below (below_step HU.out (by first | exact HB | exact below_alloc HB _ | exact ba2 HB | exact ba3 HB))) HC.out).mono ?_
  rintro e w1 ⟨rfl, hbN⟩
  replace HB := below_step (by first | exact HB | exact below_alloc HB _ | exact ba2 HB | exact ba3 HB) hbN
  clear hbN
  generalize hdm : declarM ⟨an, ⟨pl, pA, pc⟩, ⟨bl, bA, bc⟩⟩ = dm at *
  by_cases k1 : dm = 0
  case neg =>
    have k1' : (dm == 0) = false := beq_eq_false_iff_ne.2 k1
    replace HR := hi_ (HR.out.trans (if_pos k1))
    go_wp2
    go_ret2
    exact ⟨ret_pp HR.out, below_step HWU.out HB⟩
  subst k1
  replace HR := hi_ (HR.out.trans (if_neg (by simp)))
  refine Exists.elim (box1 w1 #[.string p.name, .slice p.headers.A p.headers.l.length p.headers.c, .slice p.metadata.A p.metadata.l.length p.metadata.c,
      .slice p.registers.A p.registers.l.length p.registers.c, .slice (some ⟨g, of, none⟩) p.actions.l.length p.actions.c, .slice p.tables.A p.tables.l.length p.tables.c,
      .slice p.states.A p.states.l.length p.states.c, .slice p.control.A p.control.l.length p.control.c, .slice p.deparser.A p.deparser.l.length p.deparser.c, .slice pA pl.length pc] 219) ?_
  rintro V ⟨hV, hv, hVV, hk⟩
  have hca := @World.cell?_alloc_some
  go_wp2
  rw [← hV]
  clear hV
  have HWV := hi_ (below_step HB hv)
  have hm := HA.out.body.1
  unfold maxLen at hm
  simp only at hm
  have HVV := hi_ hVV
  clear HB hVV hv hp2 hc hq
  go_loopw [5, 8, 9, 37] (fun _ _ _ iv wr => ∃ k : Nat, k ≤ bl.length ∧ iv = .int .i64 k ∧ (∀ j, j < k → stAtM p ⟨an, ⟨pl, pA, pc⟩, ⟨bl, bA, bc⟩⟩ j = none) ∧ Below V.heap.size V wr) (fun _ _ _ i _ => bl.length - (intOf i).toNat)
  case atStart => exact ⟨0, Nat.zero_le _, rfl, fun j h => absurd h (Nat.not_lt_zero _), HVV.out⟩
  case round =>
    obtain ⟨k, hk2, rfl, hpre, HB⟩ := hrel
    have HPre := hi_ hpre
    clear hpre
    have HX := fun w' (h : Below V.heap.size V w') => below_step HU.out (below_step HWV.out h)
    have HAct := HA.out.below (HX wr HB)
    by_cases hlt : k < bl.length
    · obtain ⟨g2, of2, hB, d0, d1, d2, d3, d4, d5, d6⟩ := StmtD.at HAct.body hlt
      have HSO := HAct.stmts _ (List.getElem_mem hlt)
      have HS2 := HS.out k hlt
      simp only at hB HSO HS2 d0 d1 d2 d3 d4 d5 d6
      subst hB
      have HSt := hi_ HSO
      have HS3 := hi_ HS2
      clear HAct HSO HS2
      generalize bl[k] = s at *
      obtain ⟨kind, dh, df, rg, hd, ⟨il, iA, ic⟩, ⟨vl, vA, vc⟩⟩ := s
      simp only [L.v] at d0 d1 d2 d3 d4 d5 d6
      have hkv := hk wr HB
      go_wp2_with fail
      have HY := HX _ (below_alloc HB (.cells (stmtCells ⟨kind, dh, df, rg, hd, ⟨il, iA, ic⟩, ⟨vl, vA, vc⟩⟩) 167))
      have hCN := statement_any p ⟨pl, pA, pc⟩ ⟨kind, dh, df, rg, hd, ⟨il, iA, ic⟩, ⟨vl, vA, vc⟩⟩ (wr.alloc (.cells (stmtCells ⟨kind, dh, df, rg, hd, ⟨il, iA, ic⟩, ⟨vl, vA, vc⟩⟩) 167)) (HO.out.below (below_step HW.out HY)) ((HA.out.below HY).params) (HSt.out.below (below1 _ _))
      simp only [scopeCells, HAA.out] at hCN
      refine hCN.mono ?_
      clear hCN HY
      rintro e w3 ⟨rfl, hbN⟩
      replace HB := below_step (by first | exact HB | exact below_alloc HB _ | exact ba2 HB | exact ba3 HB) hbN
      clear hbN
      generalize hst : stmtM p pl ⟨kind, dh, df, rg, hd, ⟨il, iA, ic⟩, ⟨vl, vA, vc⟩⟩ = sm at *
      by_cases k1 : sm = 0
      · subst k1
        have HE := hi_ (HS3.out.trans (if_neg (by simp)))
        go_wp2
        go_roundw
        case rel => exact ⟨k + 1, by omega, by go_num, firstE_step HPre.out HE.out, HB⟩
        case measure => simp [intOf]; omega
      · have k1' : (sm == 0) = false := beq_eq_false_iff_ne.2 k1
        have HE := hi_ (HS3.out.trans (if_pos k1))
        have HR2 := hi_ (HR.out.trans (show _ = ((k : Int), sm) by rw [firstE_some hlt HPre.out HE.out]))
        go_wp2
        go_ret2
        exact ⟨ret_pp HR2.out, below_step HWU.out (below_step HWV.out HB)⟩
    · have e : k = bl.length := by omega
      have HR2 : Hid (actM p ⟨an, ⟨pl, pA, pc⟩, ⟨bl, bA, bc⟩⟩ = (0, 0)) := hi_ (by rw [HR.out, firstE_none (by rw [← e]; exact HPre.out)])
      go_wp2
      go_ret2
      exact ⟨ret_pp HR2.out, below_step HWU.out (below_step HWV.out HB)⟩
def cAtM (ps : List FieldD) (args : List Int) (i : Nat) : Option Int := match args[i]?, ps[i]? with
  | some v, some f => if fitsM v f.width = false then some (9 : Int) else none
  | _, _ => none
theorem callM_eq (p : ProgD) (a : Int) (args : List Int) : callM p a args = if a < 0 then 8 else match p.actions.l[a.toNat]? with
  | none => 8
  | some x => if args.length ≠ x.params.l.length then 2 else match firstE args.length (cAtM x.params.l args) with
    | some e => e
    | none => 0 := rfl
theorem cAtM_at (ps : List FieldD) (args : List Int) (k : Nat) (h : k < args.length) (h2 : k < ps.length) : cAtM ps args k = if fitsM args[k] ps[k].width = false then some 9 else none := by
  rw [cAtM, List.getElem?_eq_getElem h, List.getElem?_eq_getElem h2]
theorem checkCall_any (p : ProgD) (ai : Int) (x : L Int) (w : World) (o : ProgOk w p) (hx : LOk w 1 ucell x) :
    Calls Tryz.prog 202 #[.agg (progCells p), .agg #[.int .i64 ai, .slice x.A x.l.length x.c]] w fun e w' => e = .returned (.int .i64 (callM p ai x.l)) ∧ Below w.heap.size w w' := by
  obtain ⟨xl, xA, xc⟩ := x
  simp only
  have HR := hi_ (callM_eq p ai xl)
  have hcase : ai < 0 ∨ (0 ≤ ai ∧ (p.actions.l.length : Int) ≤ ai) ∨ ∃ k : Nat, ai = k ∧ k < p.actions.l.length := by
    by_cases h : 0 ≤ ai ∧ ai < p.actions.l.length
    · exact .inr (.inr ⟨ai.toNat, by omega, by omega⟩)
    · omega
  rcases hcase with h1 | ⟨h1, h2⟩ | ⟨i, rfl, hi⟩
  · replace HR := hi_ (HR.out.trans (if_pos h1))
    clear o hx
    go_enter Tryz.func202, Tryz.ntmps202
    go_wp2
    go_ret
    exact ⟨by rw [HR.out]; rfl, below2 _ _ _⟩
  · replace HR : Hid (callM p ai xl = 8) := hi_ (by rw [HR.out, if_neg (by omega), List.getElem?_eq_none (by omega)])
    clear o hx
    go_enter Tryz.func202, Tryz.ntmps202
    go_wp2
    go_ret
    exact ⟨by rw [HR.out]; rfl, below2 _ _ _⟩
  have HO := hi_ o
  obtain ⟨W, hW, hw, HB, hp⟩ := box2 w (progCells p) 31 #[.int .i64 (i : Int), .slice xA xl.length xc] 127
  have HW := hi_ hw
  have HA : Hid (ActOk W p.actions.l[i]) := hi_ ((o.act _ (List.getElem_mem hi)).below hw)
  have HX := hi_ (hx.below hw (Nat.le_refl _))
  obtain ⟨g, of, hA, hq⟩ := ActD.atA (o.actions.below hw (Nat.le_refl _)) hi
  have hn1 : (i : Int) < (p.actions.l.length : Int) := by omega
  replace HR := hi_ (HR.out.trans ((if_neg (show ¬ (i : Int) < 0 by omega)).trans (by rw [Int.toNat_natCast, List.getElem?_eq_getElem hi])))
  clear o hw hx
  generalize p.actions.l[i] = a at *
  obtain ⟨an, ⟨pl, pA, pc⟩, ⟨bl, bA, bc⟩⟩ := a
  simp only at HR hq
  simp only [progCells, hA] at hp hW ⊢
  clear hA
  by_cases k1 : xl.length = pl.length
  case neg =>
    replace HR := hi_ (HR.out.trans (if_pos k1))
    have k1' : ((xl.length : Int) == (pl.length : Int)) = false := beq_eq_false_iff_ne.2 (by omega)
    go_enter Tryz.func202, Tryz.ntmps202
    go_upto_region 1 with fail
    rw [← hW]
    clear hW
    go_wp2
    go_ret
    exact ⟨by rw [HR.out]; rfl, below_step HW.out HB⟩
  replace HR := hi_ (HR.out.trans (if_neg (show ¬ xl.length ≠ pl.length from fun h => h k1)))
  have k1' : ((xl.length : Int) == (pl.length : Int)) = true := by rw [k1]; simp
  have K1 := hi_ k1
  clear k1
  have hm := HX.out.1
  unfold maxLen at hm
  go_enter Tryz.func202, Tryz.ntmps202
  go_upto_region 1 with fail
  rw [← hW]
  clear hW
  have HW0 := hi_ HB
  go_wp2
  clear HB
  go_loopw [6, 7, 35] (fun _ _ iv wr => ∃ k : Nat, k ≤ xl.length ∧ iv = .int .i64 k ∧ (∀ j, j < k → cAtM pl xl j = none) ∧ Below W.heap.size W wr) (fun _ _ i _ => xl.length - (intOf i).toNat)
  case atStart => exact ⟨0, Nat.zero_le _, rfl, fun j h => absurd h (Nat.not_lt_zero _), HW0.out⟩
  case round =>
    obtain ⟨k, hk2, rfl, hpre, HB⟩ := hrel
    have HPre := hi_ hpre
    clear hpre
    by_cases hlt : k < xl.length
    · have hlt2 : k < pl.length := by have := K1.out; omega
      obtain ⟨g2, of2, hA2, e0⟩ := ucell_at (HX.out.below HB (Nat.le_refl _)) hlt
      obtain ⟨g3, of3, hA3, f0, f1⟩ := FieldD.at (HA.out.params.below HB (Nat.le_refl _)) hlt2
      have HE := hi_ (cAtM_at pl xl k hlt hlt2)
      simp only at hA3 f0 f1
      have hj1 : (k : Int) < (pl.length : Int) := by omega
      simp only at hA2
      subst hA2 hA3
      generalize xl[k] = v at *
      generalize pl[k]'hlt2 = y at *
      obtain ⟨yn, yw⟩ := y
      simp only at HE f0 f1
      go_wp2_with fail
      refine (fits_any v yw _).mono ?_
      rintro e w2 ⟨rfl, hbN⟩
      replace HB := below_step (by first | exact HB | exact below_alloc HB _ | exact ba2 HB | exact ba3 HB) hbN
      clear hbN
      cases hf : fitsM v yw
      · replace HE := hi_ (HE.out.trans (if_pos hf))
        have HR2 := hi_ (HR.out.trans (show _ = (9 : Int) by rw [firstE_some hlt HPre.out HE.out]))
        go_wp2
        go_ret
        exact ⟨by rw [HR2.out]; rfl, below_step HW.out HB⟩
      · replace HE := hi_ (HE.out.trans (if_neg (by rw [hf]; simp)))
        go_wp2
        go_roundw
        case rel => exact ⟨k + 1, by omega, by go_num, firstE_step HPre.out HE.out, HB⟩
        case measure => simp [intOf]; omega
    · have e : k = xl.length := by omega
      have HR2 := hi_ (HR.out.trans (show _ = (0 : Int) by rw [firstE_none (by rw [← e]; exact HPre.out)]))
      go_wp2
      go_ret
      exact ⟨by rw [HR2.out]; rfl, below_step HW.out HB⟩
open Go.RowKit Go.Maps
def setL (l : List Lit) : DataW Unit := l.foldl (fun D a => D.put a (.lit (.bool true))) (.map [])
theorem setL_snoc (l : List Lit) (a : Lit) : setL (l ++ [a]) = (setL l).put a (.lit (.bool true)) := by simp [setL, List.foldl_append]
theorem setL_at (x : Lit) : ∀ (l : List Lit) (D : DataW Unit), IsMap D → (∀ a ∈ l, WideAt.IsKeyLit a) →
    (x ∈ l → (l.foldl (fun D a => D.put a (.lit (.bool true))) D).atKey x (.lit (.bool false)) = .lit (.bool true)) ∧
    (x ∉ l → (l.foldl (fun D a => D.put a (.lit (.bool true))) D).atKey x (.lit (.bool false)) = D.atKey x (.lit (.bool false)))
  | [], _, _, _ => ⟨fun h => (by cases h), fun _ => rfl⟩
  | a :: l, D, hD, hk => by
    obtain ⟨h1, h2⟩ := setL_at x l (D.put a (.lit (.bool true))) (hD.put _ _) (fun b hb => hk b (List.mem_cons_of_mem _ hb))
    refine ⟨fun hx => ?_, fun hx => ?_⟩
    · by_cases hxl : x ∈ l
      · exact h1 hxl
      · have e : x = a := (List.mem_cons.1 hx).resolve_right hxl
        subst e
        exact (h2 hxl).trans (atKey_put_same hD (hk x (List.mem_cons_self)) _ _)
    · have hn : x ≠ a ∧ x ∉ l := ⟨fun e => hx (e ▸ List.mem_cons_self), fun h => hx (List.mem_cons_of_mem _ h)⟩
      exact (h2 hn.2).trans (atKey_put_other hn.1 _ _)
theorem look_bool {P : Program} {w : World} {t k e : TypeId} {b n : Nat} {D : DataW Unit} (h : w.ownsMap P k (plainElem P e) b n D) (K : Keyed P k) (ht : P.underlying t = some (.map k e)) (he : P.underlying e = some .bool)
    (hz : (zeroValue e).run P w = .ok (.bool false) w) {key : Value} {kl : Lit} (hkey : keyOf P k key = some kl) (x : Bool) (hat : D.atKey kl (.lit (.bool false)) = .lit (.bool x)) :
    (Instr.lookup t (.map (some b)) key false).run P w = .ok (.bool x) w := by
  obtain ⟨v, ps, hrun, hv⟩ := h.lookup K ht hz (plainElem_bool he false) hkey
  rw [hat] at hv
  rw [hrun]
  cases v <;> simp_all [plainElem]
def ilit (a : Int) : Lit := .int .i64 a
theorem ilit_key (l : List Int) : ∀ a ∈ l.map ilit, WideAt.IsKeyLit a := by
  intro a ha
  obtain ⟨b, _, rfl⟩ := List.mem_map.1 ha
  trivial
theorem ilit_mem {l : List Int} {a : Int} : (ilit a ∈ l.map ilit) = (a ∈ l) := by
  rw [List.mem_map]
  apply propext
  constructor
  · rintro ⟨b, hb, e⟩
    injection e with _ e
    subst e; exact hb
  · exact fun h => ⟨a, h, rfl⟩
theorem look_int {w : World} {b n : Nat} {l : List Int} (h : w.ownsMap Tryz.prog 3 (plainElem (H := Unit) Tryz.prog 4) b n (setL (l.map ilit))) (a : Int) (ha : (Lit.int .i64 a).wf = true) :
    (Instr.lookup 243 (.map (some b)) (.int .i64 a) false).run Tryz.prog w = .ok (.bool (decide (a ∈ l))) w := by
  refine look_bool h (int_keyed Tryz.underlying3) Tryz.underlying243 Tryz.underlying4 (by kernel_rfl) (keyOf_int_mk Tryz.underlying3 ha) _ ?_
  obtain ⟨h1, h2⟩ := setL_at (ilit a) (l.map ilit) (.map []) isMap_empty (ilit_key l)
  rw [ilit_mem] at h1 h2
  by_cases hm : a ∈ l
  · rw [decide_eq_true hm]; exact h1 hm
  · rw [decide_eq_false hm]; exact h2 hm
theorem widthAt_le (p : ProgD) (h f : Int) : 0 ≤ widthAt p h f ∧ widthAt p h f ≤ 32 := by
  unfold widthAt
  split
  · have := okW_iff.1 (by assumption)
    omega
  · omega
@[reducible] def tabCells (t : TabD) : Array Value := #[.string t.name, .slice t.keys.A t.keys.l.length t.keys.c, .slice t.acts.A t.acts.l.length t.acts.c, .int .i64 t.defA, .slice t.args.A t.args.l.length t.args.c, .int .i64 t.size]
theorem lpmM_snoc (l : List KeyD) (x : KeyD) : lpmM (l ++ [x]) = lpmM l + if x.kind = 2 then 1 else 0 := by simp [lpmM, List.sum_append]
theorem bitsM_snoc (p : ProgD) (l : List KeyD) (x : KeyD) : bitsM p (l ++ [x]) = bitsM p l + widthAt p x.h x.f := by simp [bitsM, List.sum_append]
theorem lpmM_le (l : List KeyD) : 0 ≤ lpmM l ∧ lpmM l ≤ l.length := by
  induction l with
  | nil => exact ⟨Int.le_refl _, Int.le_refl _⟩
  | cons x l ih =>
    have : lpmM (x :: l) = (if x.kind = 2 then 1 else 0) + lpmM l := by simp [lpmM]
    rw [this, List.length_cons]
    split <;> omega
theorem bitsM_le (p : ProgD) (l : List KeyD) : 0 ≤ bitsM p l ∧ bitsM p l ≤ 32 * l.length := by
  induction l with
  | nil => exact ⟨Int.le_refl _, Int.le_refl _⟩
  | cons x l ih =>
    have : bitsM p (x :: l) = widthAt p x.h x.f + bitsM p l := by simp [bitsM]
    rw [this, List.length_cons]
    have := widthAt_le p x.h x.f
    omega
theorem keyAtM_at (p : ProgD) (l : List KeyD) (k : Nat) (h : k < l.length) : keyAtM p l k = if widthAt p l[k].h l[k].f = 0 then some ((k : Int), 8) else if ¬ (l[k].kind = 1 ∨ l[k].kind = 2 ∨ l[k].kind = 3) then some ((k : Int), 11) else none := by
  rw [keyAtM, List.getElem?_eq_getElem h]
theorem take_snoc {α : Type} (l : List α) (k : Nat) (h : k < l.length) : l.take (k + 1) = l.take k ++ [l[k]] := List.take_succ_eq_append_getElem h
theorem checkKeys_any (p : ProgD) (t : TabD) (w : World) (o : ProgOk w p) (ot : TabOk w t) (h6 : t.keys.l.length ≤ 6) :
    Calls Tryz.prog 172 #[.agg (progCells p), .agg (tabCells t)] w fun e w' => e = .returned (.tuple #[.int .i64 (keysM p t.keys.l).1, .int .i64 (keysM p t.keys.l).2]) ∧ Below w.heap.size w w' := by
  obtain ⟨tn, ⟨kl, kA, kc⟩, ta, td, tg, tz⟩ := t
  have HO := hi_ o
  have HK := hi_ ot.keys
  simp only at h6 HK
  obtain ⟨W, hW, hw, HB, hp⟩ := box2 w (progCells p) 31 (tabCells ⟨tn, ⟨kl, kA, kc⟩, ta, td, tg, tz⟩) 129
  have HW := hi_ hw
  have HW0 := hi_ HB
  have HR := hi_ (keysM.eq_1 p kl)
  have HS := hi_ (keyAtM_at p kl)
  have HT := hi_ (take_snoc kl)
  clear o ot hw
  go_enter Tryz.func172, Tryz.ntmps172
  go_upto_region 1 with fail
  rw [← hW]
  clear hW
  go_wp2
  clear HB
  go_loopw [6, 7, 8, 9, 10, 14] (fun lv bv _ _ _ iv wr => ∃ k : Nat, k ≤ kl.length ∧ iv = .int .i64 k ∧ lv = .int .i64 (lpmM (kl.take k)) ∧ bv = .int .i64 (bitsM p (kl.take k)) ∧ (∀ j, j < k → keyAtM p kl j = none) ∧ Below W.heap.size W wr) (fun _ _ _ _ _ i _ => kl.length - (intOf i).toNat)
  case atStart => exact ⟨0, Nat.zero_le _, rfl, rfl, rfl, fun j h => absurd h (Nat.not_lt_zero _), HW0.out⟩
  case round =>
    obtain ⟨k, hk, rfl, rfl, rfl, hpre, HB⟩ := hrel
    have HPre := hi_ hpre
    clear hpre
    have b1 := lpmM_le (kl.take k)
    have b2 := bitsM_le p (kl.take k)
    rw [List.length_take] at b1 b2
    obtain ⟨b11, b12⟩ := b1
    obtain ⟨b21, b22⟩ := b2
    by_cases hlt : k < kl.length
    · obtain ⟨g, of, hA, d0, d1, d2⟩ := KeyD.at (HK.out.below (below_step HW.out HB) (Nat.le_refl _)) hlt
      have HE := hi_ (HS.out k hlt)
      have HL : Hid (lpmM (kl.take (k + 1)) = lpmM (kl.take k) + if kl[k].kind = 2 then 1 else 0) := hi_ (by rw [HT.out k hlt, lpmM_snoc])
      have HBt : Hid (bitsM p (kl.take (k + 1)) = bitsM p (kl.take k) + widthAt p kl[k].h kl[k].f) := hi_ (by rw [HT.out k hlt, bitsM_snoc])
      simp only at hA d0 d1 d2
      subst hA
      generalize kl[k] = y at *
      obtain ⟨yh, yf, yk⟩ := y
      simp only at HE HL HBt d0 d1 d2
      generalize lpmM (kl.take k) = lm at *
      generalize bitsM p (kl.take k) = bm at *
      have hp1 := hp wr HB
      have hca := @World.cell?_alloc_some
      go_wp2_with fail
      refine (width_any p yh yf (wr.alloc (.cells #[.int .i64 yh, .int .i64 yf, .int .i64 yk] 231)) (HO.out.below (below_step HW.out (by first | exact HB | exact below_alloc HB _ | exact ba2 HB | exact ba3 HB)))).mono ?_
      rintro e w2 ⟨rfl, hbN⟩
      have hk2 : w2.cell? ⟨wr.heap.size, 2, none⟩ = some (.int .i64 yk) := below_cell hbN (by simp)
      replace HB := below_step (by first | exact HB | exact below_alloc HB _ | exact ba2 HB | exact ba3 HB) hbN
      clear hbN d0 d1 d2 hp1
      have hwl := widthAt_le p yh yf
      generalize widthAt p yh yf = wd at *
      obtain ⟨wl1, wl2⟩ := hwl
      by_cases k1 : wd = 0
      · subst k1
        have HE2 := hi_ (HE.out.trans (if_pos rfl))
        have HR2 := hi_ (HR.out.trans (show _ = ((k : Int), (8 : Int)) by rw [firstE_some hlt HPre.out HE2.out]))
        go_wp2
        go_ret2
        exact ⟨ret_pp HR2.out, below_step HW.out HB⟩
      have k1' : (wd == 0) = false := beq_eq_false_iff_ne.2 k1
      have HE2 := hi_ (HE.out.trans (if_neg k1))
      have hkind : yk = 2 ∨ yk = 1 ∨ yk = 3 ∨ (yk ≠ 1 ∧ yk ≠ 2 ∧ yk ≠ 3) := by omega
      rcases hkind with rfl | rfl | rfl | ⟨n1, n2, n3⟩
      · have HE3 := hi_ (HE2.out.trans (if_neg (by simp)))
        have HL2 := hi_ (HL.out.trans (show _ = lm + 1 by simp))
        go_wp2
        go_roundw
        case rel => exact ⟨k + 1, by omega, by go_num, by rw [HL2.out], by rw [HBt.out], firstE_step HPre.out HE3.out, HB⟩
        case measure => simp [intOf]; omega
      · have HE3 := hi_ (HE2.out.trans (if_neg (by simp)))
        have HL2 := hi_ (HL.out.trans (show _ = lm by simp))
        go_wp2
        go_roundw
        case rel => exact ⟨k + 1, by omega, by go_num, by rw [HL2.out], by rw [HBt.out], firstE_step HPre.out HE3.out, HB⟩
        case measure => simp [intOf]; omega
      · have HE3 := hi_ (HE2.out.trans (if_neg (by simp)))
        have HL2 := hi_ (HL.out.trans (show _ = lm by simp))
        go_wp2
        go_roundw
        case rel => exact ⟨k + 1, by omega, by go_num, by rw [HL2.out], by rw [HBt.out], firstE_step HPre.out HE3.out, HB⟩
        case measure => simp [intOf]; omega
      · have m1 : (yk == 1) = false := beq_eq_false_iff_ne.2 n1
        have m2 : (yk == 2) = false := beq_eq_false_iff_ne.2 n2
        have m3 : (yk == 3) = false := beq_eq_false_iff_ne.2 n3
        have HE3 := hi_ (HE2.out.trans (if_pos (fun h => h.elim n1 (fun h => h.elim n2 n3))))
        have HR2 := hi_ (HR.out.trans (show _ = ((k : Int), (11 : Int)) by rw [firstE_some hlt HPre.out HE3.out]))
        go_wp2
        go_ret2
        exact ⟨ret_pp HR2.out, below_step HW.out HB⟩
    · have e : k = kl.length := by omega
      have HR2 := hi_ (HR.out.trans (show _ = (if 1 < lpmM kl then ((-2 : Int), (7 : Int)) else if 64 < bitsM p kl then (-2, 10) else (0, 0)) by rw [firstE_none (by rw [← e]; exact HPre.out)]))
      have HL : Hid (lpmM (kl.take k) = lpmM kl) := hi_ (by rw [e, List.take_length])
      have HBt : Hid (bitsM p (kl.take k) = bitsM p kl) := hi_ (by rw [e, List.take_length])
      rw [HL.out] at b11 b12 ⊢
      rw [HBt.out] at b21 b22 ⊢
      generalize lpmM kl = lm at *
      generalize bitsM p kl = bm at *
      by_cases k1 : 1 < lm
      · replace HR2 := hi_ (HR2.out.trans (if_pos k1))
        go_wp2
        go_ret2
        exact ⟨ret_pp HR2.out, below_step HW.out HB⟩
      replace HR2 := hi_ (HR2.out.trans (if_neg k1))
      by_cases k2 : 64 < bm
      · replace HR2 := hi_ (HR2.out.trans (if_pos k2))
        go_wp2
        go_ret2
        exact ⟨ret_pp HR2.out, below_step HW.out HB⟩
      · replace HR2 := hi_ (HR2.out.trans (if_neg k2))
        go_wp2
        go_ret2
        exact ⟨ret_pp HR2.out, below_step HW.out HB⟩
open Go.RowKit Go.Maps
theorem tactsM_eq (p : ProgD) (t : TabD) : tactsM p t = match firstE t.acts.l.length (tactAtM p t.acts.l) with
  | some e => e
  | none => if t.defA ∈ t.acts.l then callM p t.defA t.args.l else 8 := rfl
theorem tactAtM_at (p : ProgD) (l : List Int) (k : Nat) (h : k < l.length) : tactAtM p l k = if l[k] < 0 ∨ (p.actions.l.length : Int) ≤ l[k] then some 8 else if l[k] ∈ l.take k then some 7 else none := by
  rw [tactAtM, List.getElem?_eq_getElem h]
theorem wf_of {a : Int} (h1 : 0 ≤ a) (h2 : a ≤ 9223372036854775807) : (Lit.int .i64 a).wf = true := by
  have e1 : IntKind.i64.min = -9223372036854775808 := rfl
  have e2 : IntKind.i64.max = 9223372036854775807 := rfl
  simp only [Lit.wf, Bool.and_eq_true, decide_eq_true_eq]
  omega
theorem checkActions_any (p : ProgD) (t : TabD) (w : World) (o : ProgOk w p) (ot : TabOk w t) (hwf : (Lit.int .i64 t.defA).wf = true) :
    Calls Tryz.prog 173 #[.agg (progCells p), .agg (tabCells t)] w fun e w' => e = .returned (.int .i64 (tactsM p t)) ∧ Below w.heap.size w w' := by
  obtain ⟨tn, tk, ⟨al, aA, ac⟩, td, ⟨gl, gA, gc⟩, tz⟩ := t
  have HO := hi_ o
  have HK := hi_ ot.acts
  have HG := hi_ ot.args
  have HWF := hi_ hwf
  simp only at HK HG HWF
  obtain ⟨W, hW, hw, HB, hp⟩ := box2 w (progCells p) 31 (tabCells ⟨tn, tk, ⟨al, aA, ac⟩, td, ⟨gl, gA, gc⟩, tz⟩) 129
  have HW := hi_ hw
  have HR := hi_ (tactsM_eq p ⟨tn, tk, ⟨al, aA, ac⟩, td, ⟨gl, gA, gc⟩, tz⟩)
  have HS := hi_ (tactAtM_at p al)
  have HT := hi_ (take_snoc al)
  simp only at HR
  have hmm := @run_makeMap Tryz.prog
  have hm1 := HK.out.1
  have hm2 := o.actions.1
  unfold maxLen at hm1 hm2
  simp only at hm1
  have hHS : W.heap.size = W.heap.size := rfl
  obtain ⟨W1, hW1⟩ : ∃ W1, W1 = W.alloc (.map #[] 0) := ⟨_, rfl⟩
  have b1 : Below W.heap.size W W1 := by rw [hW1]; exact below1 _ _
  have hown : W1.ownsMap Tryz.prog 3 (plainElem (H := Unit) Tryz.prog 4) W.heap.size 0 (setL []) := by rw [hW1]; exact World.ownsMap_made _ _ _ _
  have HOW := hi_ hown
  have HB1 := hi_ b1
  clear o ot hw hown b1 hHS hwf
  go_enter Tryz.func173, Tryz.ntmps173
  go_upto_region 1 with fail
  rw [← hW]
  clear hW
  have hp1 := hp W HB
  have hca := @World.cell?_alloc_some
  go_wp2
  rw [← hW1]
  clear hW1 HB hmm hp1 hca
  go_loopw [7, 12] (fun _ iv wr => ∃ k : Nat, k ≤ al.length ∧ iv = .int .i64 k ∧ (∀ j, j < k → tactAtM p al j = none) ∧ Below W.heap.size W wr ∧ wr.ownsMap Tryz.prog 3 (plainElem (H := Unit) Tryz.prog 4) W.heap.size k (setL ((al.take k).map ilit))) (fun _ i _ => al.length - (intOf i).toNat)
  case atStart => exact ⟨0, Nat.zero_le _, rfl, fun j h => absurd h (Nat.not_lt_zero _), HB1.out, HOW.out⟩
  case round =>
    obtain ⟨k, hk, rfl, hpre, HB, hown⟩ := hrel
    have HPre := hi_ hpre
    have HOwn := hi_ hown
    clear hpre hown
    have hp1 := hp wr HB
    by_cases hlt : k < al.length
    · obtain ⟨g, of, hA, d0⟩ := icell_at (HK.out.below (below_step HW.out HB) (Nat.le_refl _)) hlt
      have HE := hi_ (HS.out k hlt)
      have HTk : Hid ((al.take (k + 1)).map ilit = (al.take k).map ilit ++ [ilit al[k]]) := hi_ (by rw [HT.out k hlt, List.map_append]; rfl)
      simp only at hA d0
      subst hA
      generalize al[k] = a at *
      have hcase : a < 0 ∨ (0 ≤ a ∧ (p.actions.l.length : Int) ≤ a) ∨ (0 ≤ a ∧ a < (p.actions.l.length : Int)) := by omega
      rcases hcase with h1 | ⟨h1, h2⟩ | ⟨h1, h2⟩
      · have HE2 := hi_ (HE.out.trans (if_pos (Or.inl h1)))
        have HR2 := hi_ (HR.out.trans (show _ = (8 : Int) by rw [firstE_some hlt HPre.out HE2.out]))
        go_wp2
        go_ret
        exact ⟨by rw [HR2.out]; rfl, below_step HW.out HB⟩
      · have HE2 := hi_ (HE.out.trans (if_pos (Or.inr h2)))
        have HR2 := hi_ (HR.out.trans (show _ = (8 : Int) by rw [firstE_some hlt HPre.out HE2.out]))
        go_wp2
        go_ret
        exact ⟨by rw [HR2.out]; rfl, below_step HW.out HB⟩
      · have HE2 := hi_ (HE.out.trans (if_neg (show ¬ (a < 0 ∨ (p.actions.l.length : Int) ≤ a) by omega)))
        have HWa := hi_ (wf_of h1 (show a ≤ 9223372036854775807 by omega))
        have hl := look_int HOwn.out a HWa.out
        by_cases hd : a ∈ al.take k
        · have HE3 := hi_ (HE2.out.trans (if_pos hd))
          have HR2 := hi_ (HR.out.trans (show _ = (7 : Int) by rw [firstE_some hlt HPre.out HE3.out]))
          rw [decide_eq_true hd] at hl
          clear hd
          go_wp2
          go_ret
          exact ⟨by rw [HR2.out]; rfl, below_step HW.out HB⟩
        · have HE3 := hi_ (HE2.out.trans (if_neg hd))
          rw [decide_eq_false hd] at hl
          clear hd
          go_wp2_with (first
            | (at_mapUpdate; refine wpList_mapUpdate_own _ rfl _ _ _ 243 rfl 3 4 (int_keyed Tryz.underlying3) Tryz.underlying243 (plainElem (H := Unit) Tryz.prog 4) W.heap.size k (setL ((al.take k).map ilit)) rfl HOwn.out ?m1 _ _ (ilit a) rfl rfl ?m2 (.lit (.bool true)) [] ?m3 ?_))
          case m1 => unfold maxLen; omega
          case m2 => exact keyOf_int_mk Tryz.underlying3 HWa.out
          case m3 => exact plainElem_bool Tryz.underlying4 true
          intro w2 hown2 hgrow2
          have hb2 : Below W.heap.size W w2 := HB.grown hgrow2 HB.size fun j hj => by simp at hj; omega
          have HO2 : Hid (w2.ownsMap Tryz.prog 3 (plainElem (H := Unit) Tryz.prog 4) W.heap.size (k + 1) (setL ((al.take (k + 1)).map ilit))) := hi_ (by rw [HTk.out, setL_snoc, List.map_take]; exact hown2)
          clear hown2 hgrow2 hl
          go_wp2
          go_roundw
          case rel => exact ⟨k + 1, by omega, by go_num, firstE_step HPre.out HE3.out, hb2, HO2.out⟩
          case measure => simp [intOf]; omega
    · have e : k = al.length := by omega
      have HR2 := hi_ (HR.out.trans (show _ = (if td ∈ al then callM p td gl else 8) by rw [firstE_none (by rw [← e]; exact HPre.out)]))
      have hl := look_int HOwn.out td HWF.out
      rw [show al.take k = al by rw [e, List.take_length]] at hl
      by_cases hd : td ∈ al
      · rw [decide_eq_true hd] at hl
        replace HR2 := hi_ (HR2.out.trans (if_pos hd))
        clear hd
        go_wp2_with fail
        refine (checkCall_any p td ⟨gl, gA, gc⟩ _ (HO.out.below (below_step HW.out (by first | exact HB | exact below_alloc HB _ | exact ba2 HB | exact ba3 HB))) (HG.out.below (below_step HW.out (by first | exact HB | exact below_alloc HB _ | exact ba2 HB | exact ba3 HB)) (Nat.le_refl _))).mono ?_
        rintro e w2 ⟨rfl, hbN⟩
        replace HB := below_step (by first | exact HB | exact below_alloc HB _ | exact ba2 HB | exact ba3 HB) hbN
        clear hbN
        go_wp2
        go_ret
        exact ⟨by rw [HR2.out]; rfl, below_step HW.out HB⟩
      · rw [decide_eq_false hd] at hl
        replace HR2 := hi_ (HR2.out.trans (if_neg hd))
        clear hd
        go_wp2
        go_ret
        exact ⟨by rw [HR2.out]; rfl, below_step HW.out HB⟩
theorem tableCheck_any (p : ProgD) (i : Nat) (hi : i < p.tables.l.length) (w : World) (o : ProgOk w p) (hc : ∀ t ∈ p.tables.l, (Lit.int .i64 t.defA).wf = true) :
    Calls Tryz.prog 134 #[.agg (progCells p), .int .i64 i] w fun e w' => e = .returned (.tuple #[.int .i64 (tabM p p.tables.l[i]).1, .int .i64 (tabM p p.tables.l[i]).2]) ∧ Below w.heap.size w w' := by
  have HO := hi_ o
  obtain ⟨W, hW, hw, HB, hp⟩ := box1 w (progCells p) 31
  have HW := hi_ hw
  have HA : Hid (TabOk W p.tables.l[i]) := hi_ ((o.tab _ (List.getElem_mem hi)).below hw)
  have HC := hi_ (hc _ (List.getElem_mem hi))
  have HR := hi_ (tabM.eq_1 p p.tables.l[i])
  obtain ⟨g, of, hA, hq⟩ := TabD.atA (o.tables.below hw (Nat.le_refl _)) hi
  have hn1 : (i : Int) < (p.tables.l.length : Int) := by omega
  clear o hw hc
  generalize p.tables.l[i] = t at *
  obtain ⟨tn, ⟨kl, kA, kc⟩, ⟨al, aA, ac⟩, td, ⟨gl, gA, gc⟩, tz⟩ := t
  simp only at HR hq
  have HAA := hi_ hA
  simp only [progCells, hA] at hp hW ⊢
  clear hA
  go_enter Tryz.func134, Tryz.ntmps134
  go_upto_region 1 with fail
  rw [← hW]
  clear hW
  refine Exists.elim (box1 W #[.string tn, .slice kA kl.length kc, .slice aA al.length ac, .int .i64 td, .slice gA gl.length gc, .int .i64 tz] 129) ?_
  rintro U ⟨hU, hu, hUU, hc⟩
  go_wp2_with fail
  rw [← hU]
  clear hU
  have HU := hi_ hu
  have hp2 := fun w' h => hp w' (below_step hu h)
  replace HB := hUU
  have HHS : Hid (tn.size ≤ maxLen) := hi_ HA.out.name
  clear hp hUU hu
  refine (isIdent_any tn _ HHS.out).mono ?_
  rintro e w' ⟨rfl, rfl⟩
  cases h1 : identM tn.data.toList
  · replace HR := hi_ (HR.out.trans (if_pos (show ident tn = false from h1)))
    go_wp2
    go_ret2
    exact ⟨ret_pp HR.out, below_step HW.out (below_step HU.out HB)⟩
  replace HR := hi_ (HR.out.trans (if_neg (show ¬ ident tn = false by rw [show ident tn = true from h1]; simp)))
  clear h1
  by_cases h2 : 6 < kl.length ∨ 16 < al.length
  · replace HR := hi_ (HR.out.trans (if_pos h2))
    have h2' : 6 < kl.length ∨ (kl.length ≤ 6 ∧ 16 < al.length) := by omega
    rcases h2' with h2 | ⟨h2, h3⟩
    all_goals
      go_wp2
      go_ret2
      exact ⟨ret_pp HR.out, below_step HW.out (below_step HU.out HB)⟩
  replace HR := hi_ (HR.out.trans (if_neg h2))
  have h3 : kl.length ≤ 6 := by omega
  have h4 : al.length ≤ 16 := by omega
  clear h2
  by_cases h2 : tz < 1 ∨ 256 < tz
  · replace HR := hi_ (HR.out.trans (if_pos h2))
    have h2' : tz < 1 ∨ (1 ≤ tz ∧ 256 < tz) := by omega
    rcases h2' with h2 | ⟨h2, h5⟩
    all_goals
      go_wp2
      go_ret2
      exact ⟨ret_pp HR.out, below_step HW.out (below_step HU.out HB)⟩
  replace HR := hi_ (HR.out.trans (if_neg h2))
  have h5 : 1 ≤ tz := by omega
  have h6 : tz ≤ 256 := by omega
  clear h2
  go_wp2_with fail
  have hCN := checkKeys_any p ⟨tn, ⟨kl, kA, kc⟩, ⟨al, aA, ac⟩, td, ⟨gl, gA, gc⟩, tz⟩ U (HO.out.below (below_step HW.out (below_step HU.out (by first | exact HB | exact below_alloc HB _ | exact ba2 HB | exact ba3 HB)))) (HA.out.below (below_step HU.out (by first | exact HB | exact below_alloc HB _ | exact ba2 HB | exact ba3 HB))) h3
  simp only [progCells, HAA.out] at hCN
  refine hCN.mono ?_
  clear hCN
  rintro e w1 ⟨rfl, hbN⟩
  replace HB := below_step (by first | exact HB | exact below_alloc HB _ | exact ba2 HB | exact ba3 HB) hbN
  clear hbN
  generalize keysM p kl = r at *
  obtain ⟨ka, kc2⟩ := r
  simp only at HR
  by_cases k1 : kc2 = 0
  case neg =>
    have k1' : (kc2 == 0) = false := beq_eq_false_iff_ne.2 k1
    replace HR := hi_ (HR.out.trans (if_pos k1))
    go_wp2
    go_ret2
    exact ⟨ret_pp HR.out, below_step HW.out (below_step HU.out HB)⟩
  subst k1
  replace HR := hi_ (HR.out.trans (if_neg (by simp)))
  go_wp2_with fail
  have hCN := checkActions_any p ⟨tn, ⟨kl, kA, kc⟩, ⟨al, aA, ac⟩, td, ⟨gl, gA, gc⟩, tz⟩ w1 (HO.out.below (below_step HW.out (below_step HU.out (by first | exact HB | exact below_alloc HB _ | exact ba2 HB | exact ba3 HB)))) (HA.out.below (below_step HU.out (by first | exact HB | exact below_alloc HB _ | exact ba2 HB | exact ba3 HB))) HC.out
  simp only [progCells, HAA.out] at hCN
  refine hCN.mono ?_
  clear hCN
  rintro e w2 ⟨rfl, hbN⟩
  replace HB := below_step (by first | exact HB | exact below_alloc HB _ | exact ba2 HB | exact ba3 HB) hbN
  clear hbN
  generalize tactsM p ⟨tn, ⟨kl, kA, kc⟩, ⟨al, aA, ac⟩, td, ⟨gl, gA, gc⟩, tz⟩ = tm at *
  by_cases k1 : tm = 0
  · subst k1
    replace HR := hi_ (HR.out.trans (if_neg (by simp)))
    go_wp2
    go_ret2
    exact ⟨ret_pp HR.out, below_step HW.out (below_step HU.out HB)⟩
  · have k1' : (tm == 0) = false := beq_eq_false_iff_ne.2 k1
    replace HR := hi_ (HR.out.trans (if_pos k1))
    go_wp2
    go_ret2
    exact ⟨ret_pp HR.out, below_step HW.out (below_step HU.out HB)⟩
theorem leads_any (p : ProgD) (s : Nat) (n : Int) (w : World) :
    Calls Tryz.prog 204 #[.agg (progCells p), .int .i64 s, .int .i64 n] w fun e w' => e = .returned (.bool (leadsM p s n)) ∧ Below w.heap.size w w' := by
  by_cases h1 : n = -1
  · subst h1
    have HR := hi_ (show leadsM p s (-1) = true by simp [leadsM])
    go_enter Tryz.func204, Tryz.ntmps204
    go_wp2
    go_ret
    exact ⟨by rw [HR.out]; rfl, below1 _ _⟩
  by_cases h2 : n = -2
  · subst h2
    have HR := hi_ (show leadsM p s (-2) = true by simp [leadsM])
    go_enter Tryz.func204, Tryz.ntmps204
    go_wp2
    go_ret
    exact ⟨by rw [HR.out]; rfl, below1 _ _⟩
  have k1 : (n == -1) = false := beq_eq_false_iff_ne.2 h1
  have k2 : (n == -2) = false := beq_eq_false_iff_ne.2 h2
  have hc : n ≤ s ∨ ((s : Int) < n ∧ n < p.states.l.length) ∨ ((s : Int) < n ∧ (p.states.l.length : Int) ≤ n) := by omega
  rcases hc with h3 | ⟨h3, h4⟩ | ⟨h3, h4⟩
  · have HR := hi_ (show leadsM p s n = false by simp [leadsM, h1, h2]; omega)
    clear h1 h2
    go_enter Tryz.func204, Tryz.ntmps204
    go_wp2
    go_ret
    exact ⟨by rw [HR.out]; rfl, below1 _ _⟩
  · have HR := hi_ (show leadsM p s n = true by simp [leadsM, h1, h2]; omega)
    clear h1 h2
    go_enter Tryz.func204, Tryz.ntmps204
    go_wp2
    go_ret
    exact ⟨by rw [HR.out]; rfl, below1 _ _⟩
  · have HR := hi_ (show leadsM p s n = false by simp [leadsM, h1, h2]; omega)
    clear h1 h2
    go_enter Tryz.func204, Tryz.ntmps204
    go_wp2
    go_ret
    exact ⟨ret_bool (by rw [HR.out]; exact decide_eq_false (by omega)), below1 _ _⟩
theorem pwidth_any (p : ProgD) (h f : Int) (w : World) (o : ProgOk w p) :
    Calls Tryz.prog 91 #[.agg (progCells p), .agg #[.int .i64 h, .int .i64 f]] w fun e w' => e = .returned (.int .i64 (widthAt p h f)) ∧ Below w.heap.size w w' := width_any p h f w o
theorem bv_within (x y : BitVec 32) : (x &&& ~~~y = 0#32) ↔ (x &&& y = x) := by
  constructor
  · intro h
    ext i hi
    have h2 := congrArg (fun z : BitVec 32 => z[i]) h
    simp at h2 ⊢
    exact h2
  · intro h
    ext i hi
    have h2 := congrArg (fun z : BitVec 32 => z[i]) h
    simp at h2 ⊢
    exact h2
theorem wf_u32 {a : Int} (h : (Lit.int .u32 a).wf = true) : ∃ n : Nat, a = n ∧ n < 4294967296 := by
  have e1 : IntKind.u32.min = 0 := rfl
  have e2 : IntKind.u32.max = 4294967295 := rfl
  simp only [Lit.wf, Bool.and_eq_true, decide_eq_true_eq] at h
  exact ⟨a.toNat, by omega, by omega⟩
theorem andNot_zero (a b : Nat) (ha : a < 4294967296) (hb : b < 4294967296) : (bits .andNot .u32 (a : Int) (b : Int) == 0) = within a b := by
  have h1 : (BitVec.ofInt 32 (a : Int)).toNat = a := by
    rw [BitVec.ofInt_natCast, BitVec.toNat_ofNat]; exact Nat.mod_eq_of_lt (by omega)
  have h2 : (BitVec.ofInt 32 (b : Int)).toNat = b := by
    rw [BitVec.ofInt_natCast, BitVec.toNat_ofNat]; exact Nat.mod_eq_of_lt (by omega)
  have h3 : bits .andNot .u32 (a : Int) (b : Int) = ((BitVec.ofInt 32 (a : Int) &&& ~~~ BitVec.ofInt 32 (b : Int)).toNat : Int) := by
    show IntKind.u32.wrap ((BitVec.ofInt 32 (a : Int) &&& ~~~ BitVec.ofInt 32 (b : Int)).toNat : Int) = _
    have := (BitVec.ofInt 32 (a : Int) &&& ~~~ BitVec.ofInt 32 (b : Int)).isLt
    exact IntWalk.u32_in _ (by omega)
  rw [h3, within, Bool.eq_iff_iff, beq_iff_eq, decide_eq_true_iff]
  simp only [Int.toNat_natCast]
  have h4 := bv_within (BitVec.ofInt 32 (a : Int)) (BitVec.ofInt 32 (b : Int))
  generalize BitVec.ofInt 32 (a : Int) = x at *
  generalize BitVec.ofInt 32 (b : Int) = y at *
  rw [← h1, ← h2, ← BitVec.toNat_and]
  constructor
  · intro h
    rw [h4.1 (BitVec.eq_of_toNat_eq (by simpa using h))]
  · intro h
    rw [h4.2 (BitVec.eq_of_toNat_eq h)]; rfl
@[reducible] def caseCells (c : CaseD) : Array Value := #[.int .u32 c.value, .int .u32 c.mask, .int .i64 c.next]
theorem checkCase_any (p : ProgD) (i : Nat) (hi : i < p.states.l.length) (c : CaseD) (w : World) (o : ProgOk w p) (hv : (Lit.int .u32 c.value).wf = true) (hm : (Lit.int .u32 c.mask).wf = true) :
    Calls Tryz.prog 203 #[.agg (progCells p), .int .i64 i, .agg (caseCells c)] w fun e w' => e = .returned (.int .i64 (caseM p i (widthAt p p.states.l[i].oh p.states.l[i].of) c)) ∧ Below w.heap.size w w' := by
  obtain ⟨cv, cm, cn⟩ := c
  have HO := hi_ o
  have hz : (bits BinOp.andNot IntKind.u32 cv cm == 0) = within cv cm := by
    obtain ⟨a, ea, la⟩ := wf_u32 hv
    obtain ⟨b, eb, lb⟩ := wf_u32 hm
    simp only at ea eb
    subst ea eb
    exact andNot_zero a b la lb
  clear hv hm
  obtain ⟨W, hW, hw, HB, hp⟩ := box2 w (progCells p) 31 (caseCells ⟨cv, cm, cn⟩) 245
  have HW := hi_ hw
  have HR := hi_ (caseM.eq_1 p i (widthAt p p.states.l[i].oh p.states.l[i].of) ⟨cv, cm, cn⟩)
  obtain ⟨g, of, hA, hq⟩ := StateD.atA (o.states.below hw (Nat.le_refl _)) hi
  have hn1 : (i : Int) < (p.states.l.length : Int) := by omega
  clear o hw
  generalize p.states.l[i] = s at *
  obtain ⟨sn, ⟨xl, xA, xc⟩, sel, oh, sf, ⟨cl, cA, cc⟩, df⟩ := s
  simp only at HR hq
  have HAA := hi_ hA
  simp only [progCells, hA] at hp hW ⊢
  clear hA
  have H0 := hi_ HB
  go_enter Tryz.func203, Tryz.ntmps203
  go_upto_region 1 with fail
  rw [← hW]
  clear hW HB
  go_region_held3 (fun w' => Below W.heap.size W w') (first | exact H0.out | exact below_drew H0.out | (exact below_step (by assumption) (by assumption)) | assumption)
    (first | (go_at_call 91; have hCN := pwidth_any p oh sf _ (HO.out.below (below_step HW.out (by assumption))); simp only [progCells, HAA.out] at hCN; refine hCN.mono ?_; clear hCN; rintro e w1 ⟨rfl, hb1⟩))
  have HB5 : Hid (Below W.heap.size W _) := hi_ (by assumption)
  have HB := HB5.out
  clear hq HB5
  go_wp2_with fail
  refine (fits_any cv (widthAt p oh sf) _).mono ?_
  rintro e w2 ⟨rfl, hbN⟩
  replace HB := below_step (by first | exact HB | exact below_alloc HB _ | exact ba2 HB | exact ba3 HB) hbN
  clear hbN
  cases h1 : fitsM cv (widthAt p oh sf)
  · replace HR := hi_ (HR.out.trans (if_pos (.inl h1)))
    go_wp2
    go_ret
    exact ⟨by rw [HR.out]; rfl, below_step HW.out HB⟩
  go_wp2_with fail
  refine (fits_any cm (widthAt p oh sf) _).mono ?_
  rintro e w3 ⟨rfl, hbN⟩
  replace HB := below_step (by first | exact HB | exact below_alloc HB _ | exact ba2 HB | exact ba3 HB) hbN
  clear hbN
  cases h2 : fitsM cm (widthAt p oh sf)
  · replace HR := hi_ (HR.out.trans (if_pos (.inr h2)))
    go_wp2
    go_ret
    exact ⟨by rw [HR.out]; rfl, below_step HW.out HB⟩
  replace HR := hi_ (HR.out.trans (if_neg (by rw [h1, h2]; simp)))
  cases h3 : within cv cm
  · replace HR := hi_ (HR.out.trans (if_pos h3))
    rw [h3] at hz
    have hz2 : (bits BinOp.andNot IntKind.u32 cv cm != 0) = true := by rw [bne, hz]; rfl
    go_wp2
    go_ret
    exact ⟨by rw [HR.out]; rfl, below_step HW.out HB⟩
  replace HR := hi_ (HR.out.trans (if_neg (by rw [h3]; simp)))
  rw [h3] at hz
  have hz2 : (bits BinOp.andNot IntKind.u32 cv cm != 0) = false := by rw [bne, hz]; rfl
  go_wp2_with fail
  have hCN := leads_any p i cn w3
  simp only [progCells, HAA.out] at hCN
  refine hCN.mono ?_
  clear hCN
  rintro e w4 ⟨rfl, hbN⟩
  replace HB := below_step (by first | exact HB | exact below_alloc HB _ | exact ba2 HB | exact ba3 HB) hbN
  clear hbN
  cases h4 : leadsM p i cn
  · replace HR := hi_ (HR.out.trans (if_pos h4))
    go_wp2
    go_ret
    exact ⟨by rw [HR.out]; rfl, below_step HW.out HB⟩
  · replace HR := hi_ (HR.out.trans (if_neg (by rw [h4]; simp)))
    go_wp2
    go_ret
    exact ⟨by rw [HR.out]; rfl, below_step HW.out HB⟩
theorem any_yes {α : Type} {f : α → Bool} {l : List α} {k : Nat} (hk : k < l.length) (h : f l[k] = true) : l.any f = true := List.any_eq_true.2 ⟨_, List.getElem_mem hk, h⟩
theorem any_no {α : Type} {f : α → Bool} {l : List α} (h : ∀ j (hj : j < l.length), f l[j] = false) : l.any f = false := by
  rw [Bool.eq_false_iff]
  intro e
  obtain ⟨x, hx, hf⟩ := List.any_eq_true.1 e
  obtain ⟨j, hj, rfl⟩ := List.mem_iff_getElem.1 hx
  rw [h j hj] at hf
  cases hf
def badH (p : ProgD) (h : Int) : Bool := decide (h < 0) || decide ((p.headers.l.length : Int) ≤ h)
theorem stateM_eq (p : ProgD) (i : Nat) (s : StateD) : stateM p i s = if 4 < s.extract.l.length ∨ 8 < s.cases.l.length then (-1, 12)
  else if s.extract.l.any (badH p) = true then (-1, 8)
  else if s.sel = true ∧ widthAt p s.oh s.of = 0 then (-1, 8)
  else if s.sel = false ∧ 0 < s.cases.l.length then (-1, 11)
  else match firstE s.cases.l.length (caseAtM p i (widthAt p s.oh s.of) s.cases.l) with
    | some r => r
    | none => if leadsM p i s.dflt = false then (-1, 14) else (0, 0) := rfl
theorem caseAtM_at (p : ProgD) (i : Nat) (w : Int) (l : List CaseD) (k : Nat) (h : k < l.length) : caseAtM p i w l k = if caseM p i w l[k] ≠ 0 then some ((k : Int), caseM p i w l[k]) else none := by
  rw [caseAtM, List.getElem?_eq_getElem h]
theorem checkState_any (p : ProgD) (i : Nat) (hi : i < p.states.l.length) (w : World) (o : ProgOk w p) (hc : ∀ c ∈ p.states.l[i].cases.l, (Lit.int .u32 c.value).wf = true ∧ (Lit.int .u32 c.mask).wf = true) :
    Calls Tryz.prog 174 #[.agg (progCells p), .int .i64 i] w fun e w' => e = .returned (.tuple #[.int .i64 (stateM p i p.states.l[i]).1, .int .i64 (stateM p i p.states.l[i]).2]) ∧ Below w.heap.size w w' := by
  have HO := hi_ o
  have HC := hi_ hc
  obtain ⟨W, hW, hw, HB, hp⟩ := box1 w (progCells p) 31
  have HW := hi_ hw
  have HA : Hid (StateOk W p.states.l[i]) := hi_ ((o.state _ (List.getElem_mem hi)).below hw)
  have HR := hi_ (stateM_eq p i p.states.l[i])
  obtain ⟨g, of, hA, hq⟩ := StateD.atA (o.states.below hw (Nat.le_refl _)) hi
  have hn1 : (i : Int) < (p.states.l.length : Int) := by omega
  have HCC : Hid (∀ (c : CaseD) (w : World), c ∈ p.states.l[i].cases.l → ProgOk w p → Calls Tryz.prog 203 #[.agg (progCells p), .int .i64 i, .agg (caseCells c)] w fun e w' => e = .returned (.int .i64 (caseM p i (widthAt p p.states.l[i].oh p.states.l[i].of) c)) ∧ Below w.heap.size w w') :=
    hi_ (fun c w hm o => checkCase_any p i hi c w o (HC.out c hm).1 (HC.out c hm).2)
  clear o hw hc HC
  generalize p.states.l[i] = s at *
  obtain ⟨sn, ⟨xl, xA, xc⟩, sel, oh, sf, ⟨cl, cA, cc⟩, df⟩ := s
  simp only at HR hq HCC
  have HAA := hi_ hA
  simp only [progCells, hA] at hp hW ⊢
  clear hA
  have HX := hi_ HA.out.extract
  have HK := hi_ HA.out.cases
  simp only at HX HK
  have hm1 := HX.out.1
  have hm2 := HK.out.1
  unfold maxLen at hm1 hm2
  simp only at hm1 hm2
  have HS := hi_ (caseAtM_at p i (widthAt p oh sf) cl)
  go_enter Tryz.func174, Tryz.ntmps174
  go_upto_region 1 with fail
  rw [← hW]
  clear hW
  refine Exists.elim (box1 W #[.string sn, .slice xA xl.length xc, .bool sel, .int .i64 oh, .int .i64 sf, .slice cA cl.length cc, .int .i64 df] 132) ?_
  rintro U ⟨hU, hu, hUU, hc⟩
  go_upto_region 2 with fail
  rw [← hU]
  clear hU
  have HU := hi_ hu
  have hp2 := fun w' h => hp w' (below_step hu h)
  replace HB := hUU
  have HUU := hi_ hUU
  clear hp hUU hu hq
  by_cases h2 : 4 < xl.length ∨ 8 < cl.length
  · replace HR := hi_ (HR.out.trans (if_pos h2))
    have h2' : 4 < xl.length ∨ (xl.length ≤ 4 ∧ 8 < cl.length) := by omega
    rcases h2' with h2 | ⟨h2, h3⟩
    all_goals
      go_wp2
      go_ret2
      exact ⟨ret_pp HR.out, below_step HW.out (below_step HU.out HB)⟩
  replace HR := hi_ (HR.out.trans (if_neg h2))
  have h3 : xl.length ≤ 4 := by omega
  have h4 : cl.length ≤ 8 := by omega
  clear h2
  go_wp2
  clear HB
  go_loopw [8, 30] (fun _ iv wr => ∃ k : Nat, k ≤ xl.length ∧ iv = .int .i64 k ∧ (∀ j (hj : j < xl.length), j < k → badH p xl[j] = false) ∧ Below U.heap.size U wr) (fun _ i _ => xl.length - (intOf i).toNat)
  case atStart => exact ⟨0, Nat.zero_le _, rfl, fun j _ h => absurd h (Nat.not_lt_zero _), HUU.out⟩
  case round =>
    obtain ⟨k, hk, rfl, hpre, HB⟩ := hrel
    have HPre := hi_ hpre
    clear hpre
    by_cases hlt : k < xl.length
    · obtain ⟨g2, of2, hA, d0⟩ := icell_at (HX.out.below (below_step HU.out HB) (Nat.le_refl _)) hlt
      have HE := hi_ (any_yes (f := badH p) hlt)
      have HN : Hid (badH p xl[k] = false → ∀ j (hj : j < xl.length), j < k + 1 → badH p xl[j] = false) := hi_ (fun hf j hj h => by
        rcases Nat.lt_succ_iff_lt_or_eq.1 h with h1 | rfl
        · exact HPre.out j hj h1
        · exact hf)
      simp only at hA d0
      subst hA
      generalize xl[k] = x at *
      have hcase : x < 0 ∨ (0 ≤ x ∧ (p.headers.l.length : Int) ≤ x) ∨ (0 ≤ x ∧ x < (p.headers.l.length : Int)) := by omega
      rcases hcase with h1 | ⟨h1, h2⟩ | ⟨h1, h2⟩
      · have HR2 := hi_ (HR.out.trans (if_pos (HE.out (by simp [badH, h1]))))
        go_wp2
        go_ret2
        exact ⟨ret_pp HR2.out, below_step HW.out (below_step HU.out HB)⟩
      · have HR2 := hi_ (HR.out.trans (if_pos (HE.out (by simp [badH, h2]))))
        go_wp2
        go_ret2
        exact ⟨ret_pp HR2.out, below_step HW.out (below_step HU.out HB)⟩
      · have HN2 := hi_ (HN.out (by simp [badH]; omega))
        go_wp2
        go_roundw
        case rel => exact ⟨k + 1, by omega, by go_num, HN2.out, HB⟩
        case measure => simp [intOf]; omega
    have e : k = xl.length := by omega
    have hno : Hid (¬ xl.any (badH p) = true) := hi_ (by rw [any_no (fun j hj => HPre.out j hj (by omega))]; simp)
    clear hlt
    replace HR := hi_ (HR.out.trans (if_neg hno.out))
    have hkx : ¬ ((k : Int) < (xl.length : Int)) := by omega
    subst e
    clear HPre hk
    cases sel
    · replace HR := hi_ (HR.out.trans (if_neg (by simp)))
      by_cases h5 : 0 < cl.length
      · replace HR := hi_ (HR.out.trans (if_pos (by simp [h5])))
        go_wp2
        go_ret2
        exact ⟨ret_pp HR.out, below_step HW.out (below_step HU.out HB)⟩
      · replace HR := hi_ (HR.out.trans (if_neg (fun h => h5 h.2)))
        have h6 : cl.length = 0 := by omega
        have HR2 := hi_ (HR.out.trans (show _ = (if leadsM p i df = false then ((-1 : Int), (14 : Int)) else (0, 0)) by rw [h6]; rfl))
        have h7 : ¬ (0 : Int) < (cl.length : Int) := by omega
        have h8 : (cl.length : Int) ≤ 0 := by omega
        clear h5 h6
        go_wp2
        refine wp_loop_rounds 1 ?_
        rw [rounds_succ]
        go_wp2_with fail
        have hCN := leads_any p i df wr
        simp only [progCells, HAA.out] at hCN
        refine hCN.mono ?_
        clear hCN
        rintro e w4 ⟨rfl, hbN⟩
        replace HB := below_step (by first | exact HB | exact below_alloc HB _ | exact ba2 HB | exact ba3 HB) hbN
        clear hbN
        cases h4 : leadsM p i df
        · replace HR2 := hi_ (HR2.out.trans (if_pos h4))
          go_wp2
          go_ret2
          exact ⟨ret_pp HR2.out, below_step HW.out (below_step HU.out HB)⟩
        · replace HR2 := hi_ (HR2.out.trans (if_neg (by rw [h4]; simp)))
          go_wp2
          go_ret2
          exact ⟨ret_pp HR2.out, below_step HW.out (below_step HU.out HB)⟩
    · go_wp2_with fail
      have hCN := pwidth_any p oh sf wr (HO.out.below (below_step HW.out (below_step HU.out HB)))
      simp only [progCells, HAA.out] at hCN
      refine hCN.mono ?_
      clear hCN
      rintro e w1 ⟨rfl, hbN⟩
      replace HB := below_step (by first | exact HB | exact below_alloc HB _ | exact ba2 HB | exact ba3 HB) hbN
      clear hbN
      by_cases h5 : widthAt p oh sf = 0
      · replace HR := hi_ (HR.out.trans (if_pos (by simp [h5])))
        have h5' : (widthAt p oh sf == 0) = true := beq_iff_eq.2 h5
        clear h5
        go_wp2
        go_ret2
        exact ⟨ret_pp HR.out, below_step HW.out (below_step HU.out HB)⟩
      · replace HR := hi_ (HR.out.trans ((if_neg (fun h => h5 h.2)).trans (if_neg (by simp))))
        have h5' : (widthAt p oh sf == 0) = false := beq_eq_false_iff_ne.2 h5
        have HB0 := hi_ HB
        clear h5
        go_wp2
        clear HB
        go_loopw [9, 10, 11, 67] (fun _ _ _ iv wr => ∃ k : Nat, k ≤ cl.length ∧ iv = .int .i64 k ∧ (∀ j, j < k → caseAtM p i (widthAt p oh sf) cl j = none) ∧ Below U.heap.size U wr) (fun _ _ _ i _ => cl.length - (intOf i).toNat)
        case atStart => exact ⟨0, Nat.zero_le _, rfl, fun j h => absurd h (Nat.not_lt_zero _), HB0.out⟩
        case round =>
          obtain ⟨k, hk, rfl, hpre, HB⟩ := hrel
          have HPre := hi_ hpre
          clear hpre
          by_cases hlt : k < cl.length
          · obtain ⟨g2, of2, hA, d0, d1, d2⟩ := CaseD.at (HK.out.below (below_step HU.out HB) (Nat.le_refl _)) hlt
            have HE := hi_ (HS.out k hlt)
            have HCk := hi_ (fun w o => HCC.out cl[k] w (List.getElem_mem hlt) o)
            simp only at hA d0 d1 d2
            subst hA
            generalize cl[k] = c at *
            obtain ⟨cv, cm, cn⟩ := c
            simp only at d0 d1 d2
            have hp3 := hp2 wr HB
            have hca := @World.cell?_alloc_some
            go_wp2_with fail
            have hCN := HCk.out (wr.alloc (.cells (caseCells ⟨cv, cm, cn⟩) 245)) (HO.out.below (below_step HW.out (below_step HU.out (by first | exact HB | exact below_alloc HB _ | exact ba2 HB | exact ba3 HB))))
            simp only [progCells, HAA.out] at hCN
            refine hCN.mono ?_
            clear hCN
            rintro e w4 ⟨rfl, hbN⟩
            replace HB := below_step (by first | exact HB | exact below_alloc HB _ | exact ba2 HB | exact ba3 HB) hbN
            clear hbN
            clear hp3
            generalize hcv : caseM p i (widthAt p oh sf) ⟨cv, cm, cn⟩ = ce at *
            by_cases k1 : ce = 0
            · subst k1
              have HE2 := hi_ (HE.out.trans (if_neg (by simp)))
              go_wp2
              go_roundw
              case rel => exact ⟨k + 1, by omega, by go_num, firstE_step HPre.out HE2.out, HB⟩
              case measure => simp [intOf]; omega
            · have k1' : (ce == 0) = false := beq_eq_false_iff_ne.2 k1
              have HE2 := hi_ (HE.out.trans (if_pos k1))
              have HR2 := hi_ (HR.out.trans (show _ = ((k : Int), ce) by rw [firstE_some hlt HPre.out HE2.out]))
              go_wp2
              go_ret2
              exact ⟨ret_pp HR2.out, below_step HW.out (below_step HU.out HB)⟩
          · have e : k = cl.length := by omega
            have HR2 := hi_ (HR.out.trans (show _ = (if leadsM p i df = false then ((-1 : Int), (14 : Int)) else (0, 0)) by rw [firstE_none (by rw [← e]; exact HPre.out)]))
            go_wp2_with fail
            have hCN := leads_any p i df wr
            simp only [progCells, HAA.out] at hCN
            refine hCN.mono ?_
            clear hCN
            rintro e w4 ⟨rfl, hbN⟩
            replace HB := below_step (by first | exact HB | exact below_alloc HB _ | exact ba2 HB | exact ba3 HB) hbN
            clear hbN
            cases h4 : leadsM p i df
            · replace HR2 := hi_ (HR2.out.trans (if_pos h4))
              go_wp2
              go_ret2
              exact ⟨ret_pp HR2.out, below_step HW.out (below_step HU.out HB)⟩
            · replace HR2 := hi_ (HR2.out.trans (if_neg (by rw [h4]; simp)))
              go_wp2
              go_ret2
              exact ⟨ret_pp HR2.out, below_step HW.out (below_step HU.out HB)⟩
open Go.RowKit Go.Maps
def slit (s : ByteArray) : Lit := .string s.data.toList
theorem slit_key (l : List ByteArray) : ∀ a ∈ l.map slit, WideAt.IsKeyLit a := by
  intro a ha
  obtain ⟨b, _, rfl⟩ := List.mem_map.1 ha
  trivial
theorem slit_mem {l : List ByteArray} {a : ByteArray} : (slit a ∈ l.map slit) = (a ∈ l) := by
  rw [List.mem_map]
  apply propext
  constructor
  · rintro ⟨b, hb, e⟩
    injection e with e
    cases a; cases b
    simp only [Array.toList_inj] at e
    subst e; exact hb
  · exact fun h => ⟨a, h, rfl⟩
theorem look_str {w : World} {b n : Nat} {l : List ByteArray} (h : w.ownsMap Tryz.prog 9 (plainElem (H := Unit) Tryz.prog 4) b n (setL (l.map slit))) (a : ByteArray) (ha : a.size ≤ maxLen) :
    (Instr.lookup 221 (.map (some b)) (.string a) false).run Tryz.prog w = .ok (.bool (Lib.containsS l a)) w := by
  refine look_bool h (string_keyed Tryz.underlying9) Tryz.underlying221 Tryz.underlying4 (by kernel_rfl) (Go.WideMaps.keyOf_string_mk Tryz.underlying9 ha) _ ?_
  obtain ⟨h1, h2⟩ := setL_at (slit a) (l.map slit) (.map []) isMap_empty (slit_key l)
  rw [slit_mem] at h1 h2
  by_cases hm : a ∈ l
  · rw [(Lib.containsS_iff _ _).2 hm]; exact h1 hm
  · rw [show Lib.containsS l a = false by rw [Bool.eq_false_iff]; exact fun e => hm ((Lib.containsS_iff _ _).1 e)]; exact h2 hm
theorem stateAtM_at (p : ProgD) (k : Nat) (h : k < p.states.l.length) : stateAtM p k = if ident p.states.l[k].name = false then some ((k : Int), -1, 6) else if dupB (p.states.l.map StateD.name) k = true then some ((k : Int), -1, 7)
    else if (stateM p k p.states.l[k]).2 ≠ 0 then some ((k : Int), (stateM p k p.states.l[k]).1, (stateM p k p.states.l[k]).2) else none := by
  rw [stateAtM, List.getElem?_eq_getElem h]
theorem dup_of {l : List ByteArray} {i : Nat} (h : i < l.length) : Lib.containsS (l.take i) l[i] = dupB l i := by
  rw [dupB]; congr 1; simp [h]
theorem ret_3 {a b c : Int} {r : Int × Int × Int} (h : r = (a, b, c)) : Ending.returned (.tuple #[.int .i64 a, .int .i64 b, .int .i64 c]) = .returned (.tuple #[.int .i64 r.1, .int .i64 r.2.1, .int .i64 r.2.2]) := by rw [h]
theorem parserCheck_any (p : ProgD) (w : World) (o : ProgOk w p) (hc : ∀ s ∈ p.states.l, ∀ c ∈ s.cases.l, (Lit.int .u32 c.value).wf = true ∧ (Lit.int .u32 c.mask).wf = true) :
    Calls Tryz.prog 135 #[.agg (progCells p)] w fun e w' => e = .returned (.tuple #[.int .i64 (parserM p).1, .int .i64 (parserM p).2.1, .int .i64 (parserM p).2.2]) ∧ Below w.heap.size w w' := by
  have HO := hi_ o
  have HC := hi_ hc
  obtain ⟨W, hW, hw, HB, hp⟩ := box1 w (progCells p) 31
  have HW := hi_ hw
  have HOW := hi_ (o.below hw)
  have HR := hi_ (parserM.eq_1 p)
  have HS := hi_ (stateAtM_at p)
  have HT := hi_ (take_snoc (p.states.l.map StateD.name))
  have hmm := @run_makeMap Tryz.prog
  clear o hw hc
  by_cases h1 : p.states.l.length = 0
  · replace HR := hi_ (HR.out.trans (if_pos h1))
    have h1' : ((p.states.l.length : Int) == 0) = true := by rw [beq_iff_eq]; omega
    clear h1
    go_enter Tryz.func135, Tryz.ntmps135
    go_wp2
    go_ret3
    exact ⟨ret_3 HR.out, below1 _ _⟩
  replace HR := hi_ (HR.out.trans (if_neg h1))
  have h1' : ((p.states.l.length : Int) == 0) = false := by rw [beq_eq_false_iff_ne]; omega
  clear h1
  by_cases h2 : 12 < p.states.l.length
  · replace HR := hi_ (HR.out.trans (if_pos h2))
    go_enter Tryz.func135, Tryz.ntmps135
    go_wp2
    go_ret3
    exact ⟨ret_3 HR.out, below1 _ _⟩
  replace HR := hi_ (HR.out.trans (if_neg h2))
  have h3 : p.states.l.length ≤ 12 := by omega
  clear h2
  obtain ⟨g, of, hA, hall⟩ := StateD.allA HOW.out.states (show 0 < p.states.l.length by
    have := h1'
    rw [beq_eq_false_iff_ne] at this
    omega)
  have HAA := hi_ hA
  have HAL := hi_ hall
  simp only [progCells, hA] at hp hW ⊢
  clear hA hall
  obtain ⟨W1, hW1⟩ : ∃ W1, W1 = W.alloc (.map #[] 0) := ⟨_, rfl⟩
  have b1 : Below W.heap.size W W1 := by rw [hW1]; exact below1 _ _
  have hown : W1.ownsMap Tryz.prog 9 (plainElem (H := Unit) Tryz.prog 4) W.heap.size 0 (setL []) := by rw [hW1]; exact World.ownsMap_made _ _ _ _
  have HOM := hi_ hown
  have HB1 := hi_ b1
  clear hown b1
  go_enter Tryz.func135, Tryz.ntmps135
  go_upto_region 1 with fail
  rw [← hW]
  clear hW
  have hp1 := hp W HB
  have hca := @World.cell?_alloc_some
  go_wp2
  rw [← hW1]
  clear hW1 HB hmm hp1 hca
  go_loopw [6, 7, 8, 9, 24] (fun _ _ _ _ iv wr => ∃ k : Nat, k ≤ p.states.l.length ∧ iv = .int .i64 k ∧ (∀ j, j < k → stateAtM p j = none) ∧ Below W.heap.size W wr ∧ wr.ownsMap Tryz.prog 9 (plainElem (H := Unit) Tryz.prog 4) W.heap.size k (setL (((p.states.l.map StateD.name).take k).map slit)))
    (fun _ _ _ _ i _ => p.states.l.length - (intOf i).toNat)
  case atStart => exact ⟨0, Nat.zero_le _, rfl, fun j h => absurd h (Nat.not_lt_zero _), HB1.out, HOM.out⟩
  case round =>
    obtain ⟨k, hk, rfl, hpre, HB, hown⟩ := hrel
    have HPre := hi_ hpre
    have HOwn := hi_ hown
    clear hpre hown
    by_cases hlt : k < p.states.l.length
    · obtain ⟨d0, d1, d2, d3, d4, d5, d6⟩ := HAL.out wr HB k hlt
      have HE := hi_ (HS.out k hlt)
      have HN : Hid (p.states.l[k].name.size ≤ maxLen) := hi_ (HOW.out.state _ (List.getElem_mem hlt)).name
      have HD : Hid (Lib.containsS ((p.states.l.map StateD.name).take k) p.states.l[k].name = dupB (p.states.l.map StateD.name) k) := hi_ (by
        have := dup_of (l := p.states.l.map StateD.name) (i := k) (by simpa using hlt)
        rwa [List.getElem_map] at this)
      have HTk : Hid (((p.states.l.map StateD.name).take (k + 1)).map slit = ((p.states.l.map StateD.name).take k).map slit ++ [slit p.states.l[k].name]) := hi_ (by
        rw [HT.out k (by simpa using hlt), List.map_append, List.getElem_map]; rfl)
      have HCS := hi_ (fun w o => checkState_any p k hlt w o (HC.out _ (List.getElem_mem hlt)))
      generalize p.states.l[k] = s at *
      obtain ⟨sn, ⟨xl, xA, xc⟩, sel, oh, sf, ⟨cl, cA, cc⟩, df⟩ := s
      simp only at HE HN HD HTk d0 d1 d2 d3 d4 d5 d6
      have hp1 := hp wr HB
      have hca := @World.cell?_alloc_some
      have HOwn2 := hi_ (HOwn.out.alloc (.cells #[.string sn, .slice xA xl.length xc, .bool sel, .int .i64 oh, .int .i64 sf, .slice cA cl.length cc, .int .i64 df] 132))
      have hl := look_str HOwn2.out sn HN.out
      go_wp2_with fail
      refine (isIdent_any sn _ HN.out).mono ?_
      rintro e w' ⟨rfl, rfl⟩
      cases h1 : identM sn.data.toList
      · have HE2 := hi_ (HE.out.trans (if_pos (show ident sn = false from h1)))
        have HR2 := hi_ (HR.out.trans (show _ = ((k : Int), (-1 : Int), (6 : Int)) by rw [firstE_some hlt HPre.out HE2.out]))
        go_wp2
        go_ret3
        exact ⟨ret_3 HR2.out, below_step HW.out (by first | exact HB | exact below_alloc HB _ | exact ba2 HB | exact ba3 HB)⟩
      have HE2 := hi_ (HE.out.trans (if_neg (show ¬ ident sn = false by rw [show ident sn = true from h1]; simp)))
      clear HE h1
      rw [HD.out] at hl
      cases h4 : dupB (p.states.l.map StateD.name) k
      case true =>
        have HE3 := hi_ (HE2.out.trans (if_pos h4))
        have HR2 := hi_ (HR.out.trans (show _ = ((k : Int), (-1 : Int), (7 : Int)) by rw [firstE_some hlt HPre.out HE3.out]))
        rw [h4] at hl
        go_wp2
        go_ret3
        exact ⟨ret_3 HR2.out, below_step HW.out (by first | exact HB | exact below_alloc HB _ | exact ba2 HB | exact ba3 HB)⟩
      have HE3 := hi_ (HE2.out.trans (if_neg (by rw [h4]; simp)))
      rw [h4] at hl
      have hbA := below_alloc HB (.cells #[.string sn, .slice xA xl.length xc, .bool sel, .int .i64 oh, .int .i64 sf, .slice cA cl.length cc, .int .i64 df] 132)
      go_wp2_with (first
        | (at_mapUpdate; refine wpList_mapUpdate_own _ rfl _ _ _ 221 rfl 9 4 (string_keyed Tryz.underlying9) Tryz.underlying221 (plainElem (H := Unit) Tryz.prog 4) W.heap.size k (setL (((p.states.l.map StateD.name).take k).map slit)) rfl HOwn2.out ?m1 _ _ (slit sn) rfl rfl ?m2 (.lit (.bool true)) [] ?m3 ?_))
      case m1 => unfold maxLen; omega
      case m2 => exact Go.WideMaps.keyOf_string_mk Tryz.underlying9 HN.out
      case m3 => exact plainElem_bool Tryz.underlying4 true
      intro w2 hown2 hgrow2
      replace HB : Below W.heap.size W w2 := hbA.grown hgrow2 hbA.size fun j hj => by simp at hj; omega
      have HO2 : Hid (w2.ownsMap Tryz.prog 9 (plainElem (H := Unit) Tryz.prog 4) W.heap.size (k + 1) (setL (((p.states.l.map StateD.name).take (k + 1)).map slit))) := hi_ (by rw [HTk.out, setL_snoc, List.map_take, List.map_map]; exact hown2)
      clear hown2 hgrow2 hl hbA HOwn2 d0 d1 d2 d3 d4 d5 d6 hp1 hca
      go_wp2_with fail
      have hCN := HCS.out w2 (HO.out.below (below_step HW.out HB))
      simp only [progCells, HAA.out] at hCN
      refine hCN.mono ?_
      clear hCN
      rintro e w3 ⟨rfl, hbN⟩
      have HO3 := hi_ (HO2.out.kept (only_of_below hbN none) (by simp))
      replace HB := below_step HB hbN
      clear hbN
      generalize hsm : stateM p k ⟨sn, ⟨xl, xA, xc⟩, sel, oh, sf, ⟨cl, cA, cc⟩, df⟩ = sm at *
      obtain ⟨sub, ec⟩ := sm
      simp only at HE3
      by_cases k1 : ec = 0
      · subst k1
        have HE4 := hi_ (HE3.out.trans (if_neg (by simp)))
        go_wp2
        go_roundw
        case rel => exact ⟨k + 1, by omega, by go_num, firstE_step HPre.out HE4.out, HB, HO3.out⟩
        case measure => simp [intOf]; omega
      · have k1' : (ec == 0) = false := beq_eq_false_iff_ne.2 k1
        have HE4 := hi_ (HE3.out.trans (if_pos k1))
        have HR2 := hi_ (HR.out.trans (show _ = ((k : Int), sub, ec) by rw [firstE_some hlt HPre.out HE4.out]))
        go_wp2
        go_ret3
        exact ⟨ret_3 HR2.out, below_step HW.out HB⟩
    · have e : k = p.states.l.length := by omega
      have HR2 := hi_ (HR.out.trans (show _ = ((0 : Int), (0 : Int), (0 : Int)) by rw [firstE_none (by rw [← e]; exact HPre.out)]))
      go_wp2
      go_ret3
      exact ⟨ret_3 HR2.out, below_step HW.out HB⟩
theorem depAtM_at (p : ProgD) (l : List Int) (k : Nat) (h : k < l.length) : depAtM p l k = if l[k] < 0 ∨ (p.headers.l.length : Int) ≤ l[k] then some ((k : Int), 8) else if l[k] ∈ l.take k then some ((k : Int), 7) else none := by
  rw [depAtM, List.getElem?_eq_getElem h]
theorem deparserCheck_any (p : ProgD) (w : World) (o : ProgOk w p) (hc : p.deparser.l.length ≤ p.deparser.c) :
    Calls Tryz.prog 137 #[.agg (progCells p)] w fun e w' => e = .returned (.tuple #[.int .i64 (depM p).1, .int .i64 (depM p).2]) ∧ Below w.heap.size w w' := by
  obtain ⟨W, hW, hw, HB, hp⟩ := box1 w (progCells p) 31
  have HW := hi_ hw
  have HOW := hi_ (o.below hw)
  have HR := hi_ (depM.eq_1 p)
  have HS := hi_ (depAtM_at p p.deparser.l)
  clear o hw
  by_cases h2 : 8 < p.deparser.l.length
  · replace HR := hi_ (HR.out.trans (if_pos h2))
    go_enter Tryz.func137, Tryz.ntmps137
    go_wp2
    go_ret2
    exact ⟨ret_pp HR.out, below1 _ _⟩
  replace HR := hi_ (HR.out.trans (if_neg h2))
  have h3 : p.deparser.l.length ≤ 8 := by omega
  clear h2
  by_cases h1 : p.deparser.l.length = 0
  · have HR2 := hi_ (HR.out.trans (show _ = ((0 : Int), (0 : Int)) by rw [h1]; rfl))
    have h4 : (p.deparser.l.length : Int) ≤ 0 := by omega
    have h5 : ¬ (0 : Int) < (p.deparser.l.length : Int) := by omega
    clear h1
    go_enter Tryz.func137, Tryz.ntmps137
    go_wp2
    refine wp_loop_rounds 1 ?_
    rw [rounds_succ]
    go_wp2
    go_ret2
    exact ⟨ret_pp HR2.out, below1 _ _⟩
  obtain ⟨g, of, hA, hall⟩ := icell_allA HOW.out.deparser (show 0 < p.deparser.l.length by omega)
  have HAL := hi_ hall
  simp only [progCells, hA] at hp hW ⊢
  clear hA hall h1
  have HB0 := hi_ HB
  go_enter Tryz.func137, Tryz.ntmps137
  go_upto_region 1 with fail
  rw [← hW]
  clear hW
  go_wp2
  clear HB
  go_loopw [4, 5, 13] (fun _ _ iv wr => ∃ k : Nat, k ≤ p.deparser.l.length ∧ iv = .int .i64 k ∧ (∀ j, j < k → depAtM p p.deparser.l j = none) ∧ Below W.heap.size W wr) (fun _ _ i _ => p.deparser.l.length - (intOf i).toNat)
  case atStart => exact ⟨0, Nat.zero_le _, rfl, fun j h => absurd h (Nat.not_lt_zero _), HB0.out⟩
  case round =>
    obtain ⟨k, hk, rfl, hpre, HB⟩ := hrel
    have HPre := hi_ hpre
    clear hpre
    by_cases hlt : k < p.deparser.l.length
    · have d0 := HAL.out wr HB k hlt
      have HE := hi_ (HS.out k hlt)
      have HCn : Hid (Calls Tryz.prog 181 #[.slice (some ⟨g, of, none⟩) k p.deparser.c, .int .i64 p.deparser.l[k]] wr fun e w' => e = .returned (.bool ((p.deparser.l.take k).contains p.deparser.l[k])) ∧ w' = wr) :=
        hi_ (Tryz.slices_Contains_int g of k p.deparser.c p.deparser.l p.deparser.l[k] wr (by omega) (by omega) (fun j hj => by rw [HAL.out wr HB j hj]; simp [hj]))
      have hi1 : (k : Int) ≤ (p.deparser.l.length : Int) := by omega
      have hi2 : k ≤ p.deparser.c := by omega
      have HM : Hid ((p.deparser.l.take k).contains p.deparser.l[k] = decide (p.deparser.l[k] ∈ p.deparser.l.take k)) := hi_ (by rw [Bool.eq_iff_iff]; simp)
      generalize p.deparser.l[k] = h at *
      have hcase : h < 0 ∨ (0 ≤ h ∧ (p.headers.l.length : Int) ≤ h) ∨ (0 ≤ h ∧ h < (p.headers.l.length : Int)) := by omega
      rcases hcase with h1 | ⟨h1, h2⟩ | ⟨h1, h2⟩
      · have HE2 := hi_ (HE.out.trans (if_pos (Or.inl h1)))
        have HR2 := hi_ (HR.out.trans (show _ = ((k : Int), (8 : Int)) by rw [firstE_some hlt HPre.out HE2.out]))
        go_wp2
        go_ret2
        exact ⟨ret_pp HR2.out, below_step HW.out HB⟩
      · have HE2 := hi_ (HE.out.trans (if_pos (Or.inr h2)))
        have HR2 := hi_ (HR.out.trans (show _ = ((k : Int), (8 : Int)) by rw [firstE_some hlt HPre.out HE2.out]))
        go_wp2
        go_ret2
        exact ⟨ret_pp HR2.out, below_step HW.out HB⟩
      · have HE2 := hi_ (HE.out.trans (if_neg (show ¬ (h < 0 ∨ (p.headers.l.length : Int) ≤ h) by omega)))
        go_wp2_with fail
        refine HCn.out.mono ?_
        rintro e w' ⟨rfl, rfl⟩
        rw [HM.out]
        by_cases h4 : h ∈ p.deparser.l.take k
        · have HE3 := hi_ (HE2.out.trans (if_pos h4))
          have HR2 := hi_ (HR.out.trans (show _ = ((k : Int), (7 : Int)) by rw [firstE_some hlt HPre.out HE3.out]))
          rw [decide_eq_true h4]
          clear h4
          go_wp2
          go_ret2
          exact ⟨ret_pp HR2.out, below_step HW.out HB⟩
        · have HE3 := hi_ (HE2.out.trans (if_neg h4))
          rw [decide_eq_false h4]
          clear h4
          go_wp2
          go_roundw
          case rel => exact ⟨k + 1, by omega, by go_num, firstE_step HPre.out HE3.out, HB⟩
          case measure => simp [intOf]; omega
    · have e : k = p.deparser.l.length := by omega
      have HR2 := hi_ (HR.out.trans (show _ = ((0 : Int), (0 : Int)) by rw [firstE_none (by rw [← e]; exact HPre.out)]))
      go_wp2
      go_ret2
      exact ⟨ret_pp HR2.out, below_step HW.out HB⟩
theorem presM_append : ∀ (a b : List CtlD), presM (a ++ b) = presM a ++ presM b
  | [], b => by simp [presM]
  | x :: a, b => by rw [List.cons_append, presM, presM, presM_append a b, List.append_assoc]
theorem preM_eq (x : CtlD) : preM x = x :: (presM x.th.l ++ presM x.el.l) := by
  cases x; rw [preM]; rfl
theorem presM_snoc (l : List CtlD) (x : CtlD) : presM (l ++ [x]) = presM l ++ x :: (presM x.th.l ++ presM x.el.l) := by
  rw [presM_append, presM, presM, preM_eq]; simp
theorem nest_mem {x : CtlD} : ∀ {l : List CtlD}, x ∈ l → nestM x.th.l < nestM l ∧ nestM x.el.l < nestM l
  | y :: l, h => by
    rw [nestM]
    rcases List.mem_cons.1 h with rfl | h
    · have e : nest1M x = max (nestM x.th.l) (nestM x.el.l) := by cases x; rw [nest1M]; rfl
      rw [e]
      omega
    · have := nest_mem h
      omega
theorem ctls_mem {w : World} {x : CtlD} : ∀ {l : List CtlD}, CtlsOk w l → x ∈ l → CtlOk w x
  | y :: l, o, h => by
    rw [CtlsOk] at o
    rcases List.mem_cons.1 h with rfl | h
    · exact o.1
    · exact ctls_mem o.2 h
theorem ctl_parts {w : World} {x : CtlD} (o : CtlOk w x) : LOk w 3 NodeD.cells x.cond ∧ LOk w 5 CtlD.cells x.th ∧ LOk w 5 CtlD.cells x.el ∧ CtlsOk w x.th.l ∧ CtlsOk w x.el.l := by
  cases x; rw [CtlOk] at o; exact o
@[reducible] def ctlCells (x : CtlD) : Array Value := #[.int .i64 x.kind, .int .i64 x.table, .slice x.cond.A x.cond.l.length x.cond.c, .slice x.th.A x.th.l.length x.th.c, .slice x.el.A x.el.l.length x.el.c]
def runM (ok : List CtlD → CtlD → Bool) : List CtlD → List CtlD → Option (List CtlD × CtlD)
  | _, [] => none
  | l, x :: r => if ok l x = true then runM ok (l ++ [x]) r else some (l, x)
theorem runM_append (ok : List CtlD → CtlD → Bool) : ∀ (a b l : List CtlD), runM ok l (a ++ b) = match runM ok l a with | none => runM ok (l ++ a) b | some r => some r
  | [], b, l => by simp [runM]
  | x :: a, b, l => by
    rw [List.cons_append, runM, runM]
    split
    · rw [runM_append ok a b (l ++ [x]), List.append_assoc]; rfl
    · rfl
theorem runM_none {ok : List CtlD → CtlD → Bool} {a b l : List CtlD} (h : runM ok l a = none) : runM ok l (a ++ b) = runM ok (l ++ a) b := by rw [runM_append, h]
theorem runM_some {ok : List CtlD → CtlD → Bool} {a b l : List CtlD} {r : List CtlD × CtlD} (h : runM ok l a = some r) : runM ok l (a ++ b) = some r := by rw [runM_append, h]
structure Grow (w w' : World) : Prop where
  os : w'.os = w.os
  tape : w'.tape = w.tape
  output : w'.output = w.output
  size : w.heap.size ≤ w'.heap.size
  block : ∀ (b : Nat) (cs : Array Value) fr, w.heap[b]? = some (Obj.cells cs 169 fr) → w'.heap[b]? = w.heap[b]?
theorem Grow.trans {w w1 w2 : World} (h : Grow w w1) (h2 : Grow w1 w2) : Grow w w2 :=
  ⟨h2.os.trans h.os, h2.tape.trans h.tape, h2.output.trans h.output, Nat.le_trans h.size h2.size, fun b cs fr hb => (h2.block b cs fr ((h.block b cs fr hb).trans hb)).trans (h.block b cs fr hb)⟩
theorem Grow.of_below {w w' : World} (h : Below w.heap.size w w') : Grow w w' := ⟨h.os, h.tape, h.output, h.size, fun b _ _ hb => h.block b (by
  rcases Nat.lt_or_ge b w.heap.size with hlt | hge
  · exact hlt
  · rw [Array.getElem?_eq_none hge] at hb; cases hb)⟩
structure Visits (N : Nat) (B0 : World) (F : FuncId) (caps : Array Value) (ok : List CtlD → CtlD → Bool) (Inv : List CtlD → World → Prop) (Stop : List CtlD → CtlD → World → Prop) : Prop where
  visit : ∀ l x w, l.length + 1 + (presM x.th.l).length + (presM x.el.l).length ≤ N → CtlOk B0 x → Inv l w → Calls Tryz.prog F (#[.agg (ctlCells x)] ++ caps) w fun e w' => e = .returned (.bool (ok l x)) ∧ Grow w w' ∧ (ok l x = true → Inv (l ++ [x]) w') ∧ (ok l x = false → Stop l x w')
  base : ∀ l w, Inv l w → Below B0.heap.size B0 w
  more : ∀ l w o, Inv l w → Inv l (w.alloc o)
def preE (ok : List CtlD → CtlD → Bool) (Inv : List CtlD → World → Prop) (Stop : List CtlD → CtlD → World → Prop) (l c : List CtlD) (w : World) (e : Ending) (w' : World) : Prop :=
  Grow w w' ∧ match runM ok l c with
    | none => e = .returned (.bool true) ∧ Inv (l ++ c) w'
    | some (l', x) => e = .returned (.bool false) ∧ Stop l' x w'
theorem Blk.grow {w w' : World} {g : Nat} {cs : Array Value} (hb : Blk w g 169 cs) (h : Grow w w') : Blk w' g 169 cs := (h.block g cs (0, 0) hb).trans hb
theorem preorder_any (N : Nat) (B0 : World) (F : FuncId) (caps : Array Value) (ok : List CtlD → CtlD → Bool) (Inv : List CtlD → World → Prop) (Stop : List CtlD → CtlD → World → Prop)
    (V : Visits N B0 F caps ok Inv Stop) (hF : (F = 205 ∧ ∃ g, caps = #[.pointer (some ⟨g, 0, none⟩)]) ∨ (F = 178 ∧ ∃ g1 g2 g3 g4, caps = #[.pointer (some ⟨g1, 0, none⟩), .pointer (some ⟨g2, 0, none⟩), .pointer (some ⟨g3, 0, none⟩), .pointer (some ⟨g4, 0, none⟩)])) :
    ∀ (m : Nat) (c : L CtlD) (l : List CtlD) (w : World), nestM c.l < m → l.length + (presM c.l).length ≤ N → LOk B0 5 CtlD.cells c → CtlsOk B0 c.l → Inv l w →
    Calls Tryz.prog 177 #[.slice c.A c.l.length c.c, .func (.func F) #[] caps] w fun e w' => preE ok Inv Stop l (presM c.l) w e w'
  | 0, _, _, _, h, _, _, _, _ => absurd h (Nat.not_lt_zero _)
  | m + 1, ⟨cl, cA, cc⟩, l, w, hm, hNb, hc, hcs, hI => by
    have IH := hi_ (preorder_any N B0 F caps ok Inv Stop V hF m)
    have HV := hi_ V
    have HC := hi_ hc
    have HCS := hi_ hcs
    have HI := hi_ hI
    have HM := hi_ hm
    have HNb := hi_ hNb
    have hlen := hc.1
    unfold maxLen at hlen
    simp only at hlen HCS HM HNb
    clear V hc hcs hI hm hNb
    by_cases h0 : cl.length = 0
    · have e0 : cl = [] := List.eq_nil_of_length_eq_zero h0
      have HE : Hid (presM cl = []) := hi_ (by rw [e0]; rfl)
      have h1 : ¬ ((0 : Int) < (cl.length : Int)) := by omega
      have h2 : (cl.length : Int) ≤ 0 := by omega
      clear h0 e0 HM HCS
      rcases hF with ⟨rfl, g, rfl⟩ | ⟨rfl, g1, g2, g3, g4, rfl⟩
      all_goals
        go_enter Tryz.func177, Tryz.ntmps177
        go_wp2
        refine wp_loop_rounds 1 ?_
        rw [rounds_succ]
        go_wp2
        go_ret
        refine ⟨Grow.of_below (Below.refl _ _), ?_⟩
        rw [HE.out]
        exact ⟨rfl, by rw [List.append_nil]; exact HI.out⟩
    obtain ⟨g0, of0, hA, hall⟩ := CtlD.allA HC.out (show 0 < cl.length by omega)
    have HAL := hi_ hall
    simp only at hA
    subst hA
    clear hall h0
    rcases hF with ⟨rfl, g, rfl⟩ | ⟨rfl, g1, g2, g3, g4, rfl⟩
    all_goals
      go_enter Tryz.func177, Tryz.ntmps177
      go_wp2
      go_loopw [6, 9] (fun _ iv wr => ∃ k : Nat, k ≤ cl.length ∧ iv = .int .i64 k ∧ Grow w wr ∧ runM ok l (presM (cl.take k)) = none ∧ Inv (l ++ presM (cl.take k)) wr) (fun _ i _ => cl.length - (intOf i).toNat)
      case atStart => exact ⟨0, Nat.zero_le _, rfl, Grow.of_below (Below.refl _ _), rfl, by rw [List.take_zero, presM, List.append_nil]; exact HI.out⟩
      case round =>
        obtain ⟨k, hk, rfl, hg, hrun, hinv⟩ := hrel
        have HG := hi_ hg
        have HRn := hi_ hrun
        have HIn := hi_ hinv
        clear hg hrun hinv
        by_cases hlt : k < cl.length
        · obtain ⟨d0, d1, d2, d3, d4⟩ := HAL.out wr (HV.out.base _ _ HIn.out) k hlt
          have HX : Hid (CtlOk B0 cl[k]) := hi_ (ctls_mem HCS.out (List.getElem_mem hlt))
          have HNe : Hid (nestM cl[k].th.l < m ∧ nestM cl[k].el.l < m) := hi_ (by
            have := nest_mem (List.getElem_mem hlt)
            have := HM.out
            omega)
          have HP1 : Hid (presM (cl.take (k + 1)) = presM (cl.take k) ++ cl[k] :: (presM cl[k].th.l ++ presM cl[k].el.l)) := hi_ (by rw [take_snoc cl k hlt, presM_snoc])
          have HP : Hid (∃ rest, presM cl = presM (cl.take k) ++ cl[k] :: (presM cl[k].th.l ++ presM cl[k].el.l) ++ rest) := hi_ ⟨presM (cl.drop (k + 1)), by
            rw [← HP1.out, ← presM_append, List.take_append_drop]⟩
          generalize cl[k] = x at *
          have HLen : Hid ((l ++ presM (cl.take k)).length + 1 + (presM x.th.l).length + (presM x.el.l).length ≤ N ∧ (l ++ presM (cl.take k) ++ [x]).length + (presM x.th.l).length ≤ N ∧ (l ++ presM (cl.take k) ++ [x] ++ presM x.th.l).length + (presM x.el.l).length ≤ N) := hi_ (by
            obtain ⟨rest, hr⟩ := HP.out
            have h1 := congrArg List.length hr
            have h2 := HNb.out
            simp only [List.length_append, List.length_cons, List.length_nil] at h1 ⊢
            omega)
          refine Exists.elim (box1 wr (ctlCells x) 169) ?_
          rintro U ⟨hU, hu, hUU, hbx⟩
          have hinvU : Inv (l ++ presM (cl.take k)) U := by rw [hU]; exact HV.out.more _ _ _ HIn.out
          have hBlk : Blk U wr.heap.size 169 (ctlCells x) := by rw [hU]; exact Blk.new _ _ _
          go_wp2_with fail
          rw [← hU]
          clear hU d0 d1 d2 d3 d4
          have hvis := HV.out.visit _ x U HLen.out.1 HX.out hinvU
          simp only [List.append_toArray, List.cons_append, List.nil_append] at hvis
          refine hvis.mono ?_
          clear hvis
          rintro e w1 ⟨rfl, hg1, hi1, hs1⟩
          have HGa := hi_ ((HG.out.trans (Grow.of_below hu)).trans hg1)
          cases hok : ok (l ++ presM (cl.take k)) x
          · have HSt := hi_ (hs1 hok)
            have HRr : Hid (runM ok l (presM cl) = some (l ++ presM (cl.take k), x)) := hi_ (by
              obtain ⟨rest, hr⟩ := HP.out
              rw [hr, List.append_assoc, runM_none HRn.out, List.cons_append, runM, if_neg (by rw [hok]; simp)])
            clear hi1 hs1 hok
            go_wp2
            go_ret
            refine ⟨HGa.out, ?_⟩
            rw [HRr.out]
            exact ⟨rfl, HSt.out⟩
          have HI1 := hi_ (hi1 hok)
          have HRx : Hid (∀ t, runM ok l (presM (cl.take k) ++ x :: t) = runM ok (l ++ presM (cl.take k) ++ [x]) t) := hi_ (fun t => by
            rw [runM_none HRn.out, runM, if_pos hok])
          have hB1 := hBlk.grow hg1
          have hth : w1.cell? ⟨wr.heap.size, 3, none⟩ = some (.slice x.th.A x.th.l.length x.th.c) := hB1.cell 3
          have HBl := hi_ hB1
          clear hi1 hs1 hok hg1 hbx hinvU hB1 hBlk
          go_wp2_with fail
          refine (IH.out x.th (l ++ presM (cl.take k) ++ [x]) w1 HNe.out.1 HLen.out.2.1 (ctl_parts HX.out).2.1 (ctl_parts HX.out).2.2.2.1 HI1.out).mono ?_
          rintro e w2 ⟨hg2, hm2⟩
          have HGb := hi_ (HGa.out.trans hg2)
          rcases hr2 : runM ok (l ++ presM (cl.take k) ++ [x]) (presM x.th.l) with _ | ⟨l', y⟩
          case some =>
            rw [hr2] at hm2
            obtain ⟨rfl, hst⟩ := hm2
            have HSt := hi_ hst
            have HRr : Hid (runM ok l (presM cl) = some (l', y)) := hi_ (by
              obtain ⟨rest, hr⟩ := HP.out
              rw [hr, List.append_assoc, List.cons_append, HRx.out, List.append_assoc (presM x.th.l), runM_some hr2])
            clear hst hr2 hg2
            go_wp2
            go_ret
            refine ⟨HGb.out, ?_⟩
            rw [HRr.out]
            exact ⟨rfl, HSt.out⟩
          rw [hr2] at hm2
          obtain ⟨rfl, hi2⟩ := hm2
          have HI2 := hi_ hi2
          have HR2 := hi_ hr2
          have hel : w2.cell? ⟨wr.heap.size, 4, none⟩ = some (.slice x.el.A x.el.l.length x.el.c) := (HBl.out.grow hg2).cell 4
          clear hi2 hr2 hg2 hth
          go_wp2_with fail
          refine (IH.out x.el (l ++ presM (cl.take k) ++ [x] ++ presM x.th.l) w2 HNe.out.2 HLen.out.2.2 (ctl_parts HX.out).2.2.1 (ctl_parts HX.out).2.2.2.2 HI2.out).mono ?_
          rintro e w3 ⟨hg3, hm3⟩
          have HGc := hi_ (HGb.out.trans hg3)
          rcases hr3 : runM ok (l ++ presM (cl.take k) ++ [x] ++ presM x.th.l) (presM x.el.l) with _ | ⟨l', y⟩
          case some =>
            rw [hr3] at hm3
            obtain ⟨rfl, hst⟩ := hm3
            have HSt := hi_ hst
            have HRr : Hid (runM ok l (presM cl) = some (l', y)) := hi_ (by
              obtain ⟨rest, hr⟩ := HP.out
              rw [hr, List.append_assoc, List.cons_append, HRx.out, List.append_assoc (presM x.th.l), runM_none HR2.out, runM_some hr3])
            clear hst hr3 hg3
            go_wp2
            go_ret
            refine ⟨HGc.out, ?_⟩
            rw [HRr.out]
            exact ⟨rfl, HSt.out⟩
          rw [hr3] at hm3
          obtain ⟨rfl, hi3⟩ := hm3
          have HI3 : Hid (Inv (l ++ presM (cl.take (k + 1))) w3) := hi_ (by
            rw [HP1.out]
            simp only [List.append_assoc, List.cons_append, List.nil_append] at hi3 ⊢
            exact hi3)
          have HR4 : Hid (runM ok l (presM (cl.take (k + 1))) = none) := hi_ (by rw [HP1.out, HRx.out, runM_none HR2.out, hr3])
          clear hi3 hr3 hg3
          go_wp2
          go_roundw
          case rel => exact ⟨k + 1, by omega, by go_num, HGc.out, HR4.out, HI3.out⟩
          case measure => simp [intOf]; omega
        · have e : k = cl.length := by omega
          have HRr : Hid (runM ok l (presM cl) = none) := hi_ (by have := HRn.out; rwa [e, List.take_length] at this)
          have HIr : Hid (Inv (l ++ presM cl) wr) := hi_ (by have := HIn.out; rwa [e, List.take_length] at this)
          clear e
          go_wp2
          go_ret
          refine ⟨HG.out, ?_⟩
          rw [HRr.out]
          exact ⟨rfl, HIr.out⟩
theorem Grow.rfl' {w : World} : Grow w w := Grow.of_below (Below.refl _ _)
theorem Grow.alloc {w w' : World} (h : Grow w w') (o : Obj) : Grow w (w'.alloc o) := h.trans (Grow.of_below (below1 _ _))
theorem Grow.drew {w w' : World} (h : Grow w w') : Grow w w'.drew := ⟨h.os, h.tape, h.output, h.size, h.block⟩
theorem Grow.setCell {w w' : World} (h : Grow w w') {a : Addr} {t : TypeId} {cs : Array Value} (hb : Blk w' a.block t cs) (ht : t ≠ 169) (v : Value) : Grow w (w'.setCell a v) := by
  have h0 : Below 0 w' (w'.setCell a v) := (Below.refl 0 w').setCell (Nat.zero_le _) v
  refine h.trans ⟨h0.os, h0.tape, h0.output, h0.size, fun b cs2 fr h2 => Below.heap_setCell _ _ _ _ (fun e => ?_)⟩
  subst e
  unfold Blk at hb
  rw [hb] at h2
  injection h2 with h2
  injection h2 with _ h2 _
  exact ht h2
theorem Grow.append {w w' w2 : World} (h : Grow w w') {v : Value} {base size n : Nat} {t : TypeId} {xs : List Value} (ho : w'.ownsRow base t size v n xs) (ht : t ≠ 169) (hg : w'.grownBy w2 v.ownBlock) : Grow w w2 := by
  refine h.trans ⟨hg.os, hg.tape, hg.output, hg.size, fun b cs fr h2 => hg.block b (by
    rcases Nat.lt_or_ge b w'.heap.size with hlt | hge
    · exact hlt
    · rw [Array.getElem?_eq_none hge] at h2; cases h2) (fun e => ?_)⟩
  rcases ho.2 with ⟨rfl, _⟩ | ⟨g, cap, cur, rfl, _, hblk, _⟩
  · simp [Value.ownBlock] at e
  · simp only [Value.ownBlock, Option.some.injEq] at e
    subst e
    rw [hblk] at h2
    injection h2 with h2
    injection h2 with _ h2 _
    exact ht h2
theorem count1_any (g : Nat) (x : CtlD) (w : World) (n : Nat) (hn : n < 100000) (hb : Blk w g 3 #[.int .i64 n]) :
    Calls Tryz.prog 205 #[.agg (ctlCells x), .pointer (some ⟨g, 0, none⟩)] w fun e w' => e = .returned (.bool true) ∧ ∃ o, w' = (w.setCell ⟨g, 0, none⟩ (.int .i64 ((n + 1 : Nat) : Int))).alloc o := by
  have hc : w.cell? ⟨g, 0, none⟩ = some (.int .i64 n) := hb.cell 0
  have hf : w.frozen? ⟨g, 0, none⟩ = false := hb.frozen 0
  have hl := hb.lt
  have hca := @World.cell?_alloc_some
  have hfl := @World.frozen?_alloc_old
  clear hb
  go_enter Tryz.func205, Tryz.ntmps205
  go_wp2
  go_ret
  exact ⟨rfl, _, by rw [show ((n + 1 : Nat) : Int) = (n : Int) + 1 by omega]⟩
theorem count_visits (w : World) : Visits 90000 w 205 #[.pointer (some ⟨w.heap.size, 0, none⟩)] (fun _ _ => true)
    (fun l w' => Below w.heap.size w w' ∧ Blk w' w.heap.size 3 #[.int .i64 l.length]) (fun _ _ _ => False) := by
  refine ⟨?_, fun l w' h => h.1, fun l w' o h => ⟨below_alloc h.1 o, h.2.alloc o⟩⟩
  rintro l x w' hl _ ⟨h1, h3⟩
  refine (count1_any w.heap.size x w' l.length (by omega) h3).mono ?_
  rintro e w2 ⟨rfl, o, rfl⟩
  refine ⟨rfl, (Grow.setCell (a := ⟨w.heap.size, 0, none⟩) Grow.rfl' h3 (by decide) _).alloc _, fun _ => ⟨below_alloc (h1.setCell (Nat.le_refl _) _) _, ?_⟩, fun h => by cases h⟩
  have h4 := (h3.set_ 0 (.int .i64 ((l.length + 1 : Nat) : Int))).alloc o
  rw [List.length_append]
  exact h4
theorem runM_true : ∀ (a l : List CtlD), runM (fun _ _ => true) l a = none
  | [], _ => rfl
  | x :: a, l => by rw [runM, if_pos rfl]; exact runM_true a _
theorem count_any (c : L CtlD) (w : World) (hc : LOk w 5 CtlD.cells c) (hcs : CtlsOk w c.l) (hn : (presM c.l).length ≤ 90000) :
    Calls Tryz.prog 175 #[.slice c.A c.l.length c.c] w fun e w' => e = .returned (.int .i64 ((presM c.l).length : Int)) ∧ Below w.heap.size w w' := by
  have HC := hi_ hc
  have HCS := hi_ hcs
  have HN := hi_ hn
  clear hc hcs hn
  have hmf : ∀ (fn : Fn) (first cap : Array Value) (w : World), (Instr.makeFunc fn first cap).run Tryz.prog w = .ok (.func fn first cap) w := fun _ _ _ _ => rfl
  go_enter Tryz.func175, Tryz.ntmps175
  go_wp2_with fail
  refine (preorder_any 90000 w 205 #[.pointer (some ⟨w.heap.size, 0, none⟩)] _ _ _ (count_visits w) (.inl ⟨rfl, _, rfl⟩) (nestM c.l + 1) c [] _ (Nat.lt_succ_self _) (by simpa using HN.out) HC.out HCS.out
    ⟨below1 _ _, Blk.new _ _ _⟩).mono ?_
  rintro e w1 ⟨hg, hm⟩
  rw [runM_true] at hm
  obtain ⟨rfl, hb1, hblk⟩ := hm
  have hz : w1.cell? ⟨w.heap.size, 0, none⟩ = some (.int .i64 ((presM c.l).length : Int)) := hblk.cell 0
  have HB := hi_ hb1
  clear hg hb1 hblk
  go_wp2
  go_ret
  exact ⟨rfl, HB.out⟩
theorem applies_any (x : CtlD) (w : World) : Calls Tryz.prog 180 #[.agg (ctlCells x)] w fun e w' => e = .returned (.bool (appliesM x)) ∧ Below w.heap.size w w' := by
  have HR := hi_ (appliesM.eq_1 x)
  by_cases h1 : x.kind = 1
  · have HR2 : Hid (appliesM x = true) := hi_ (by rw [HR.out, h1]; rfl)
    have h1' : (x.kind == 1) = true := beq_iff_eq.2 h1
    clear h1
    go_enter Tryz.func180, Tryz.ntmps180
    go_wp2
    go_ret
    exact ⟨by rw [HR2.out]; rfl, below1 _ _⟩
  · have h1' : (x.kind == 1) = false := beq_eq_false_iff_ne.2 h1
    by_cases h2 : x.kind = 3
    · have HR2 : Hid (appliesM x = true) := hi_ (by rw [HR.out, h2]; rfl)
      have h2' : (x.kind == 3) = true := beq_iff_eq.2 h2
      clear h1 h2
      go_enter Tryz.func180, Tryz.ntmps180
      go_wp2
      go_ret
      exact ⟨by rw [HR2.out]; rfl, below1 _ _⟩
    · have HR2 : Hid (appliesM x = false) := hi_ (by rw [HR.out]; simp [h1, h2])
      have h2' : (x.kind == 3) = false := beq_eq_false_iff_ne.2 h2
      clear h1 h2
      go_enter Tryz.func180, Tryz.ntmps180
      go_wp2
      go_ret
      exact ⟨by rw [HR2.out]; rfl, below1 _ _⟩
mutual
theorem nest1_le : ∀ (x : CtlD), nest1M x + 1 ≤ (preM x).length
  | .mk k t c th el tA eA tc ec => by
    have h1 := nest_le th
    have h2 := nest_le el
    rw [nest1M, preM, List.length_cons, List.length_append]
    omega
theorem nest_le : ∀ (l : List CtlD), nestM l ≤ (presM l).length
  | [] => by rw [nestM]; exact Nat.zero_le _
  | x :: l => by
    have h1 := nest1_le x
    have h2 := nest_le l
    rw [nestM, presM, List.length_append]
    omega
end
theorem nest_snoc (l : List CtlD) (x : CtlD) : nestM (l ++ [x]) = max (nestM l) (max (nestM x.th.l) (nestM x.el.l) + 1) := by
  induction l with
  | nil => cases x; simp [nestM, nest1M, CtlD.th, CtlD.el]
  | cons y l ih => rw [List.cons_append, nestM, ih, nestM]; omega
theorem nesting_any : ∀ (m : Nat) (c : L CtlD) (w : World), nestM c.l < m → nestM c.l ≤ 90000 → LOk w 5 CtlD.cells c → CtlsOk w c.l →
    Calls Tryz.prog 176 #[.slice c.A c.l.length c.c] w fun e w' => e = .returned (.int .i64 (nestM c.l : Int)) ∧ Below w.heap.size w w'
  | 0, _, _, h, _, _, _ => absurd h (Nat.not_lt_zero _)
  | m + 1, ⟨cl, cA, cc⟩, w, hm, hN, hc, hcs => by
    have IH := hi_ (nesting_any m)
    have HC := hi_ hc
    have HCS := hi_ hcs
    have HM := hi_ hm
    have HN := hi_ hN
    have hlen := hc.1
    unfold maxLen at hlen
    simp only at hlen HCS HM HN
    clear hc hcs hm hN
    by_cases h0 : cl.length = 0
    · have e0 : cl = [] := List.eq_nil_of_length_eq_zero h0
      have HE : Hid (nestM cl = 0) := hi_ (by rw [e0]; rfl)
      have h1 : ((cl.length : Int) == 0) = true := by rw [beq_iff_eq]; omega
      clear h0 e0 HM HCS
      go_enter Tryz.func176, Tryz.ntmps176
      go_wp2
      go_ret
      exact ⟨by rw [HE.out]; rfl, Below.refl _ _⟩
    have h1 : ((cl.length : Int) == 0) = false := by rw [beq_eq_false_iff_ne]; omega
    obtain ⟨g0, of0, hA, hall⟩ := CtlD.allA HC.out (show 0 < cl.length by omega)
    have HAL := hi_ hall
    simp only at hA
    subst hA
    clear hall h0
    go_enter Tryz.func176, Tryz.ntmps176
    go_wp2
    go_loopw [3, 5, 11] (fun nv _ iv wr => ∃ k : Nat, k ≤ cl.length ∧ iv = .int .i64 k ∧ nv = .int .i64 ((nestM (cl.take k) - 1 : Nat) : Int) ∧ (0 < k → 0 < nestM (cl.take k)) ∧ Below w.heap.size w wr) (fun _ _ i _ => cl.length - (intOf i).toNat)
    case atStart => exact ⟨0, Nat.zero_le _, rfl, rfl, fun h => absurd h (Nat.lt_irrefl _), Below.refl _ _⟩
    case round =>
      obtain ⟨k, hk, rfl, rfl, hpos, HB⟩ := hrel
      by_cases hlt : k < cl.length
      · obtain ⟨d0, d1, d2, d3, d4⟩ := HAL.out wr HB k hlt
        have HX : Hid (CtlOk w cl[k]) := hi_ (ctls_mem HCS.out (List.getElem_mem hlt))
        have hmem := nest_mem (List.getElem_mem hlt)
        have HNe : Hid (nestM cl[k].th.l < m ∧ nestM cl[k].el.l < m ∧ nestM cl[k].th.l ≤ 90000 ∧ nestM cl[k].el.l ≤ 90000) := hi_ (by
          have := HM.out
          have := HN.out
          omega)
        have HS : Hid (nestM (cl.take (k + 1)) = max (nestM (cl.take k)) (max (nestM cl[k].th.l) (nestM cl[k].el.l) + 1)) := hi_ (by rw [take_snoc cl k hlt, nest_snoc])
        clear hmem
        generalize cl[k] = x at *
        refine Exists.elim (box1 wr (ctlCells x) 169) ?_
        rintro U ⟨hU, hu, hUU, hbx⟩
        have HB0 := hi_ HB
        have HU := hi_ (below_step HB hu)
        have H0 := hi_ hUU
        have hca := @World.cell?_alloc_some
        go_upto_region 7 with fail
        rw [← hU]
        clear hU HB hUU hu d0 d1 d2 d3 d4 hca
        have hb3 : ∀ w', Below U.heap.size U w' → w'.cell? ⟨wr.heap.size, 3, none⟩ = some (.slice x.th.A x.th.l.length x.th.c) ∧ w'.cell? ⟨wr.heap.size, 4, none⟩ = some (.slice x.el.A x.el.l.length x.el.c) :=
          fun w' h => ⟨hbx w' h 3 (show 3 < 5 by decide), hbx w' h 4 (show 4 < 5 by decide)⟩
        clear hbx
        have HXt : Hid (LOk w 5 CtlD.cells x.th ∧ CtlsOk w x.th.l) := hi_ ⟨(ctl_parts HX.out).2.1, (ctl_parts HX.out).2.2.2.1⟩
        have HXe : Hid (LOk w 5 CtlD.cells x.el ∧ CtlsOk w x.el.l) := hi_ ⟨(ctl_parts HX.out).2.2.1, (ctl_parts HX.out).2.2.2.2⟩
        clear HX
        generalize x.kind = xk at *
        generalize x.table = xtb at *
        generalize x.cond = xcd at *
        generalize x.th = xt at *
        generalize x.el = xe at *
        obtain ⟨tl, tA, tc⟩ := xt
        obtain ⟨el, eA, ec⟩ := xe
        simp only at hb3 HXt HXe HNe HS
        have HCt : Hid (∀ w', Below U.heap.size U w' → Calls Tryz.prog 176 #[.slice tA tl.length tc] w' fun e w2 => e = .returned (.int .i64 (nestM tl : Int)) ∧ Below w'.heap.size w' w2) :=
          hi_ (fun w' h => IH.out ⟨tl, tA, tc⟩ w' HNe.out.1 HNe.out.2.2.1 (HXt.out.1.below (below_step HU.out h) (Nat.le_refl _)) (CtlsOk.below (below_step HU.out h) HXt.out.2))
        have HCe : Hid (∀ w', Below U.heap.size U w' → Calls Tryz.prog 176 #[.slice eA el.length ec] w' fun e w2 => e = .returned (.int .i64 (nestM el : Int)) ∧ Below w'.heap.size w' w2) :=
          hi_ (fun w' h => IH.out ⟨el, eA, ec⟩ w' HNe.out.2.1 HNe.out.2.2.2 (HXe.out.1.below (below_step HU.out h) (Nat.le_refl _)) (CtlsOk.below (below_step HU.out h) HXe.out.2))
        go_region_held3 (fun w' => Below U.heap.size U w') (first | exact H0.out | exact below_drew H0.out | (exact below_step (by assumption) (by assumption)) | assumption)
          (first | (go_at_call 176; refine (HCt.out _ (by assumption)).mono ?_; clear HCt; rintro e w1 ⟨rfl, hb1⟩)
                 | (go_at_call 176; refine (HCe.out _ (by assumption)).mono ?_; rintro e w1 ⟨rfl, hb1⟩))
        have HB5 : Hid (Below U.heap.size U _) := hi_ (by assumption)
        go_wp2
        go_roundw
        case rel => exact ⟨k + 1, by omega, by go_num, by (rw [HS.out]; congr 1; (repeat' split) <;> omega), fun _ => (by rw [HS.out]; omega), below_step HU.out HB5.out⟩
        case measure => simp [intOf]; omega
      · have e : k = cl.length := by omega
        have HR : Hid (nestM (cl.take k) = nestM cl) := hi_ (by rw [e, List.take_length])
        have hp : 0 < nestM (cl.take k) := hpos (by
          have := h1
          rw [beq_eq_false_iff_ne] at this
          omega)
        have hN2 := HN.out
        rw [HR.out] at hp ⊢
        go_wp2
        go_ret
        exact ⟨ret_int (by omega), HB⟩
theorem exprCheck_nil (p : ProgD) (x : L NodeD) (w : World) (o : ProgOk w p) (hx : LOk w 3 NodeD.cells x) :
    Calls Tryz.prog 201 #[.slice x.A x.l.length x.c, .agg (scopeCells p ⟨[], none, 0⟩)] w fun e w' => e = .returned (.tuple #[.int .i64 (exprM p [] x.l).1, .int .i64 (exprM p [] x.l).2]) ∧ Below w.heap.size w w' :=
  exprCheck_any p ⟨[], none, 0⟩ x w o ⟨Nat.zero_le _, .inl rfl⟩ hx
theorem nodeM_eq (p : ProgD) (used : List Int) (x : CtlD) : nodeM p used x = if x.kind = 1 ∨ x.kind = 3 then
    (if x.table < 0 ∨ (p.tables.l.length : Int) ≤ x.table then 8 else if x.table ∈ used then 7 else if x.kind = 1 ∧ 0 < x.th.l.length + x.el.l.length then 5 else 0)
  else if x.kind = 2 then (if (exprM p [] x.cond.l).2 ≠ 0 then (exprM p [] x.cond.l).2 else if (exprM p [] x.cond.l).1 ≠ 1 then 10 else 0)
  else 11 := rfl
theorem node_apply (p : ProgD) (kd tb : Int) (cd : L NodeD) (tl el : List CtlD) (tA eA : Option Addr) (tc ec : Nat) (ul : List Int) (uA : Option Addr) (uc : Nat) (w : World) (hk : kd = 1 ∨ kd = 3)
    (hu : LOk w 1 icell ⟨ul, uA, uc⟩) (hle : tl.length + el.length ≤ 90000) :
    Calls Tryz.prog 179 #[.agg (progCells p), .agg #[.int .i64 kd, .int .i64 tb, .slice cd.A cd.l.length cd.c, .slice tA tl.length tc, .slice eA el.length ec], .slice uA ul.length uc] w fun e w' => e = .returned (.int .i64 (nodeM p ul (.mk kd tb cd tl el tA eA tc ec))) ∧ Below w.heap.size w w' := by
  obtain ⟨W, hW, hw, HB, hp⟩ := box2 w (progCells p) 31 #[.int .i64 kd, .int .i64 tb, .slice cd.A cd.l.length cd.c, .slice tA tl.length tc, .slice eA el.length ec] 169
  have HW := hi_ hw
  have HU := hi_ (hu.below hw (Nat.le_refl _))
  have HB0 := hi_ HB
  have hlen := hu.1
  unfold maxLen at hlen
  simp only at hlen
  have HR := hi_ ((nodeM_eq p ul (.mk kd tb cd tl el tA eA tc ec)).trans (if_pos hk))
  simp only [CtlD.kind, CtlD.table, CtlD.th, CtlD.el] at HR
  clear hu hw
  have hcase : tb < 0 ∨ (0 ≤ tb ∧ (p.tables.l.length : Int) ≤ tb) ∨ (0 ≤ tb ∧ tb < (p.tables.l.length : Int)) := by omega
  rcases hcase with h1 | ⟨h1, h2⟩ | ⟨h1, h2⟩
  case inl =>
    replace HR := hi_ (HR.out.trans (if_pos (Or.inl h1)))
    rcases hk with rfl | rfl
    all_goals
      go_enter Tryz.func179, Tryz.ntmps179
      go_upto_region 1 with fail
      rw [← hW]
      clear hW
      go_wp2
      go_ret
      exact ⟨by rw [HR.out]; rfl, below_step HW.out HB⟩
  case inr.inl =>
    replace HR := hi_ (HR.out.trans (if_pos (Or.inr h2)))
    rcases hk with rfl | rfl
    all_goals
      go_enter Tryz.func179, Tryz.ntmps179
      go_upto_region 1 with fail
      rw [← hW]
      clear hW
      go_wp2
      go_ret
      exact ⟨by rw [HR.out]; rfl, below_step HW.out HB⟩
  replace HR := hi_ (HR.out.trans (if_neg (show ¬ (tb < 0 ∨ (p.tables.l.length : Int) ≤ tb) by omega)))
  by_cases hmem : tb ∈ ul
  · replace HR := hi_ (HR.out.trans (if_pos hmem))
    have HMem := hi_ hmem
    clear hmem
    rcases hk with rfl | rfl
    all_goals
      go_enter Tryz.func179, Tryz.ntmps179
      go_upto_region 1 with fail
      rw [← hW]
      clear hW
      go_wp2
      clear HB
      go_loopw [8, 29] (fun _ iv wr => ∃ k : Nat, k ≤ ul.length ∧ iv = .int .i64 k ∧ (∀ j (hj : j < ul.length), j < k → ul[j] ≠ tb) ∧ W = wr) (fun _ i _ => ul.length - (intOf i).toNat)
      case atStart => exact ⟨0, Nat.zero_le _, rfl, fun j _ h => absurd h (Nat.not_lt_zero _), rfl⟩
      case round =>
        obtain ⟨k, hk2, rfl, hpre, rfl⟩ := hrel
        have HPre := hi_ hpre
        have HB := HB0.out
        clear hpre
        by_cases hlt : k < ul.length
        · obtain ⟨g2, of2, hA, d0⟩ := icell_at HU.out hlt
          have HN : Hid (ul[k] ≠ tb → ∀ j (hj : j < ul.length), j < k + 1 → ul[j] ≠ tb) := hi_ (fun hf j hj h => by
            rcases Nat.lt_succ_iff_lt_or_eq.1 h with h1 | rfl
            · exact HPre.out j hj h1
            · exact hf)
          simp only at hA d0
          subst hA
          generalize ul[k] = u at *
          by_cases he : u = tb
          · subst he
            go_wp2
            go_ret
            exact ⟨by rw [HR.out]; rfl, below_step HW.out HB⟩
          · have HN2 := hi_ (HN.out he)
            have he' : (u == tb) = false := beq_eq_false_iff_ne.2 he
            go_wp2
            go_roundw
            case rel => exact ⟨k + 1, by omega, by go_num, HN2.out, by trivial⟩
            case measure => simp [intOf]; omega
        · exfalso
          obtain ⟨j, hj, he⟩ := List.mem_iff_getElem.1 HMem.out
          exact HPre.out j hj (by omega) he
  replace HR := hi_ (HR.out.trans (if_neg hmem))
  have HMem := hi_ hmem
  clear hmem
  have hsum : ¬ ((0 : Int) < (tl.length : Int) + (el.length : Int)) ∨ (0 : Int) < (tl.length : Int) + (el.length : Int) := by omega
  rcases hk with rfl | rfl
  · rcases hsum with hs | hs
    all_goals
      first
        | replace HR := hi_ (HR.out.trans (if_neg (show ¬ ((1 : Int) = 1 ∧ 0 < tl.length + el.length) by omega)))
        | replace HR := hi_ (HR.out.trans (if_pos (show ((1 : Int) = 1 ∧ 0 < tl.length + el.length) from ⟨rfl, by omega⟩)))
      go_enter Tryz.func179, Tryz.ntmps179
      go_upto_region 1 with fail
      rw [← hW]
      clear hW
      go_wp2
      clear HB
      go_loopw [8, 29] (fun _ iv wr => ∃ k : Nat, k ≤ ul.length ∧ iv = .int .i64 k ∧ W = wr) (fun _ i _ => ul.length - (intOf i).toNat)
      case atStart => exact ⟨0, Nat.zero_le _, rfl, rfl⟩
      case round =>
        obtain ⟨k, hk2, rfl, rfl⟩ := hrel
        have HB := HB0.out
        by_cases hlt : k < ul.length
        · obtain ⟨g2, of2, hA, d0⟩ := icell_at HU.out hlt
          have HNe : Hid (ul[k] ≠ tb) := hi_ (fun e => HMem.out (e ▸ List.getElem_mem hlt))
          simp only at hA d0
          subst hA
          generalize ul[k] = u at *
          have he' : (u == tb) = false := beq_eq_false_iff_ne.2 HNe.out
          go_wp2
          go_roundw
          case rel => exact ⟨k + 1, by omega, by go_num, by trivial⟩
          case measure => simp [intOf]; omega
        · go_wp2
          go_ret
          exact ⟨by rw [HR.out]; rfl, below_step HW.out HB⟩
  · replace HR := hi_ (HR.out.trans (if_neg (show ¬ ((3 : Int) = 1 ∧ 0 < tl.length + el.length) by omega)))
    go_enter Tryz.func179, Tryz.ntmps179
    go_upto_region 1 with fail
    rw [← hW]
    clear hW
    go_wp2
    clear HB
    go_loopw [8, 29] (fun _ iv wr => ∃ k : Nat, k ≤ ul.length ∧ iv = .int .i64 k ∧ W = wr) (fun _ i _ => ul.length - (intOf i).toNat)
    case atStart => exact ⟨0, Nat.zero_le _, rfl, rfl⟩
    case round =>
      obtain ⟨k, hk2, rfl, rfl⟩ := hrel
      have HB := HB0.out
      by_cases hlt : k < ul.length
      · obtain ⟨g2, of2, hA, d0⟩ := icell_at HU.out hlt
        have HNe : Hid (ul[k] ≠ tb) := hi_ (fun e => HMem.out (e ▸ List.getElem_mem hlt))
        simp only at hA d0
        subst hA
        generalize ul[k] = u at *
        have he' : (u == tb) = false := beq_eq_false_iff_ne.2 HNe.out
        go_wp2
        go_roundw
        case rel => exact ⟨k + 1, by omega, by go_num, by trivial⟩
        case measure => simp [intOf]; omega
      · go_wp2
        go_ret
        exact ⟨by rw [HR.out]; rfl, below_step HW.out HB⟩
theorem node_other (p : ProgD) (kd tb : Int) (cd : L NodeD) (tl el : List CtlD) (tA eA : Option Addr) (tc ec : Nat) (ul : List Int) (uA : Option Addr) (uc : Nat) (w : World) (h1 : ¬ (kd = 1 ∨ kd = 3)) (o : ProgOk w p) (hx : LOk w 3 NodeD.cells cd) :
    Calls Tryz.prog 179 #[.agg (progCells p), .agg #[.int .i64 kd, .int .i64 tb, .slice cd.A cd.l.length cd.c, .slice tA tl.length tc, .slice eA el.length ec], .slice uA ul.length uc] w fun e w' => e = .returned (.int .i64 (nodeM p ul (.mk kd tb cd tl el tA eA tc ec))) ∧ Below w.heap.size w w' := by
  have HO := hi_ o
  have HX := hi_ hx
  obtain ⟨W, hW, hw, HB, hp⟩ := box2 w (progCells p) 31 #[.int .i64 kd, .int .i64 tb, .slice cd.A cd.l.length cd.c, .slice tA tl.length tc, .slice eA el.length ec] 169
  have HW := hi_ hw
  have HR := hi_ ((nodeM_eq p ul (.mk kd tb cd tl el tA eA tc ec)).trans (if_neg h1))
  simp only [CtlD.kind, CtlD.cond] at HR
  have k1 : (kd == 1) = false := beq_eq_false_iff_ne.2 (fun e => h1 (.inl e))
  have k3 : (kd == 3) = false := beq_eq_false_iff_ne.2 (fun e => h1 (.inr e))
  clear o hx hw h1
  by_cases h2 : kd = 2
  · subst h2
    replace HR := hi_ (HR.out.trans (if_pos rfl))
    go_enter Tryz.func179, Tryz.ntmps179
    go_upto_region 1 with fail
    rw [← hW]
    clear hW
    go_wp2_with fail
    refine (exprCheck_nil p cd _ (HO.out.below (below_step HW.out (by first | exact HB | exact below_alloc HB _ | exact ba2 HB | exact ba3 HB))) (HX.out.below (below_step HW.out (by first | exact HB | exact below_alloc HB _ | exact ba2 HB | exact ba3 HB)) (Nat.le_refl _))).mono ?_
    rintro e w1 ⟨rfl, hbN⟩
    replace HB := below_step (by first | exact HB | exact below_alloc HB _ | exact ba2 HB | exact ba3 HB) hbN
    clear hbN
    by_cases k5 : (exprM p [] cd.l).2 = 0
    · replace HR := hi_ (HR.out.trans (if_neg (fun h => h k5)))
      have k5' : ((exprM p [] cd.l).2 == 0) = true := beq_iff_eq.2 k5
      clear k5
      by_cases k6 : (exprM p [] cd.l).1 = 1
      · replace HR := hi_ (HR.out.trans (if_neg (fun h => h k6)))
        have k6' : ((exprM p [] cd.l).1 == 1) = true := beq_iff_eq.2 k6
        clear k6
        go_wp2
        go_ret
        exact ⟨by rw [HR.out]; rfl, below_step HW.out HB⟩
      · have k6' : ((exprM p [] cd.l).1 == 1) = false := beq_eq_false_iff_ne.2 k6
        replace HR := hi_ (HR.out.trans (if_pos k6))
        clear k6
        go_wp2
        go_ret
        exact ⟨by rw [HR.out]; rfl, below_step HW.out HB⟩
    · have k5' : ((exprM p [] cd.l).2 == 0) = false := beq_eq_false_iff_ne.2 k5
      replace HR := hi_ (HR.out.trans (if_pos k5))
      clear k5
      go_wp2
      go_ret
      exact ⟨by rw [HR.out]; rfl, below_step HW.out HB⟩
  · replace HR := hi_ (HR.out.trans (if_neg h2))
    have k2 : (kd == 2) = false := beq_eq_false_iff_ne.2 h2
    go_enter Tryz.func179, Tryz.ntmps179
    go_upto_region 1 with fail
    rw [← hW]
    clear hW
    go_wp2
    go_ret
    exact ⟨by rw [HR.out]; rfl, below_step HW.out HB⟩
theorem checkNode_any (p : ProgD) (x : CtlD) (ul : List Int) (uA : Option Addr) (uc : Nat) (w : World) (o : ProgOk w p) (hx : LOk w 3 NodeD.cells x.cond) (hu : LOk w 1 icell ⟨ul, uA, uc⟩) (hle : x.th.l.length + x.el.l.length ≤ 90000) :
    Calls Tryz.prog 179 #[.agg (progCells p), .agg (ctlCells x), .slice uA ul.length uc] w fun e w' => e = .returned (.int .i64 (nodeM p ul x)) ∧ Below w.heap.size w w' := by
  obtain ⟨kd, tb, cd, tl, el, tA, eA, tc, ec⟩ := x
  by_cases h1 : kd = 1 ∨ kd = 3
  · exact node_apply p kd tb cd tl el tA eA tc ec ul uA uc w h1 hu hle
  · exact node_other p kd tb cd tl el tA eA tc ec ul uA uc w h1 o hx
def ints (l : List Int) : List Value := l.map (Value.int .i64)
theorem own_lok {w : World} {base : Nat} {A : Option Addr} {c : Nat} {l : List Int} (h : w.ownsRow base 3 1 (.slice A l.length c) l.length (ints l)) (hm : l.length ≤ maxLen) : LOk w 1 icell ⟨l, A, c⟩ := by
  refine ⟨hm, ?_⟩
  by_cases h0 : l = []
  · exact .inl h0
  · have hpos : 0 < l.length := List.length_pos_iff.2 h0
    have h' := h
    rcases h'.2 with ⟨e, _⟩ | ⟨g, cap, cur, hv, _, hblk, hle, _, _, _⟩
    · exact absurd e (by intro e; injection e with _ e _; omega)
    · have hA : A = some ⟨g, 0, none⟩ := by injection hv
      have hc : c = cap := by injection hv
      subst hA hc
      refine .inr ⟨g, 0, rfl, Blk.lt hblk, fun i hi j hj => ?_⟩
      have e : j = 0 := by omega
      subst e
      simp only at hi
      have := h.cellAt i (by omega)
      simp [ints, hi] at this
      simpa [icell] using this
theorem grown_setCell (w : World) (a : Addr) (v : Value) : w.grownBy (w.setCell a v) (some a.block) := by
  have h0 : Below 0 w (w.setCell a v) := (Below.refl 0 w).setCell (Nat.zero_le _) v
  exact ⟨h0.os, h0.tape, h0.output, h0.size, fun b _ hb => Below.heap_setCell _ _ _ _ (fun e => hb (by rw [e]))⟩
structure CkSt (B0 : World) (p : ProgD) (gP gE gN gU : Nat) (e : Int) (n : Nat) (us : List Int) (A : Option Addr) (c : Nat) (w : World) : Prop where
  base : Below B0.heap.size B0 w
  prog : Blk w gP 31 (progCells p)
  err : Blk w gE 37 #[.int .i64 e]
  cnt : Blk w gN 3 #[.int .i64 n]
  used : Blk w gU 29 #[.slice A us.length c]
  row : w.ownsRow (gU + 1) 3 1 (.slice A us.length c) us.length (ints us)
section
variable {B0 : World} {p : ProgD} {gP gE gN gU : Nat} {e : Int} {n : Nat} {us : List Int} {A : Option Addr} {c : Nat} {w w' : World}
theorem CkSt.below (h : CkSt B0 p gP gE gN gU e n us A c w) (hb : Below w.heap.size w w') : CkSt B0 p gP gE gN gU e n us A c w' :=
  ⟨⟨hb.os.trans h.base.os, hb.tape.trans h.base.tape, hb.output.trans h.base.output, Nat.le_trans h.base.size hb.size, fun b hk => (hb.block b (Nat.lt_of_lt_of_le hk h.base.size)).trans (h.base.block b hk)⟩,
    h.prog.below hb h.prog.lt, h.err.below hb h.err.lt, h.cnt.below hb h.cnt.lt, h.used.below hb h.used.lt, own_below h.row hb⟩
theorem CkSt.setErr (h : CkSt B0 p gP gE gN gU e n us A c w) (h0 : B0.heap.size ≤ gE) (h1 : gP < gE) (h2 : gE < gN) (h3 : gN < gU) (e' : Int) : CkSt B0 p gP gE gN gU e' n us A c (w.setCell ⟨gE, 0, none⟩ (.int .i64 e')) :=
  ⟨h.base.setCell h0 _, h.prog.far (by simp only; omega) _, h.err.set_ 0 _, h.cnt.far (by simp only; omega) _, h.used.far (by simp only; omega) _,
    h.row.kept (grown_setCell _ _ _) (.inr (fun e => by have := (h.row.lt _ e).1; simp only at this; omega))⟩
theorem CkSt.setCnt (h : CkSt B0 p gP gE gN gU e n us A c w) (h0 : B0.heap.size ≤ gN) (h1 : gP < gE) (h2 : gE < gN) (h3 : gN < gU) (n' : Nat) : CkSt B0 p gP gE gN gU e n' us A c (w.setCell ⟨gN, 0, none⟩ (.int .i64 n')) :=
  ⟨h.base.setCell h0 _, h.prog.far (by simp only; omega) _, h.err.far (by simp only; omega) _, h.cnt.set_ 0 _, h.used.far (by simp only; omega) _,
    h.row.kept (grown_setCell _ _ _) (.inr (fun e => by have := (h.row.lt _ e).1; simp only at this; omega))⟩
end
theorem used_snoc (l : List CtlD) (x : CtlD) : usedM (l ++ [x]) = usedM l ++ (if appliesM x = true then [x.table] else []) := by
  unfold usedM
  rw [List.filter_append, List.map_append]
  congr 1
  by_cases h : appliesM x = true
  · simp [h]
  · simp [h]
def usedN (us : List Int) (x : CtlD) : List Int := us ++ (if appliesM x = true then [x.table] else [])
theorem usedN_no {us : List Int} {x : CtlD} (h : appliesM x = false) : usedN us x = us := by rw [usedN, h]; simp
theorem usedN_yes {us : List Int} {x : CtlD} (h : appliesM x = true) : usedN us x = us ++ [x.table] := by rw [usedN, h]; simp
theorem used_len (l : List CtlD) : (usedM l).length ≤ l.length := by
  unfold usedM
  rw [List.length_map]
  exact List.length_filter_le _ _
theorem pres_len : ∀ (l : List CtlD), l.length ≤ (presM l).length
  | [] => Nat.le_refl _
  | x :: l => by
    have := pres_len l
    rw [presM, preM_eq, List.length_cons, List.length_append, List.length_cons]
    omega
theorem check1_any (B0 : World) (p : ProgD) (o : ProgOk B0 p) (gP gE gN gU : Nat) (h0 : B0.heap.size ≤ gP) (h1 : gP < gE) (h2 : gE < gN) (h3 : gN < gU) (x : CtlD) (n : Nat) (us : List Int) (A : Option Addr) (c : Nat) (w : World)
    (hx : CtlOk B0 x) (hl : x.th.l.length + x.el.l.length ≤ 90000) (hn : n < 90000) (hu : us.length ≤ n) (st : CkSt B0 p gP gE gN gU 0 n us A c w) :
    Calls Tryz.prog 178 #[.agg (ctlCells x), .pointer (some ⟨gP, 0, none⟩), .pointer (some ⟨gU, 0, none⟩), .pointer (some ⟨gE, 0, none⟩), .pointer (some ⟨gN, 0, none⟩)] w fun e w' =>
      e = .returned (.bool (nodeM p us x == 0)) ∧ Grow w w' ∧ ((nodeM p us x == 0) = true → ∃ A' c', CkSt B0 p gP gE gN gU 0 (n + 1) (usedN us x) A' c' w') ∧ ((nodeM p us x == 0) = false → CkSt B0 p gP gE gN gU (nodeM p us x) n us A c w') := by
  have HO := hi_ o
  have HX := hi_ hx
  have HST := hi_ st
  obtain ⟨U, hU, hu1, hUU, _⟩ := box1 w (ctlCells x) 169
  have hB : Blk U w.heap.size 169 (ctlCells x) := by rw [hU]; exact Blk.new _ _ _
  have HG := hi_ (Grow.of_below hu1)
  have st1 := st.below hu1
  have c0 : U.cell? ⟨gP, 0, none⟩ = some (.string p.name) := st1.prog.cell 0
  have c1 : U.cell? ⟨gP, 1, none⟩ = some (.slice p.headers.A p.headers.l.length p.headers.c) := st1.prog.cell 1
  have c2 : U.cell? ⟨gP, 2, none⟩ = some (.slice p.metadata.A p.metadata.l.length p.metadata.c) := st1.prog.cell 2
  have c3 : U.cell? ⟨gP, 3, none⟩ = some (.slice p.registers.A p.registers.l.length p.registers.c) := st1.prog.cell 3
  have c4 : U.cell? ⟨gP, 4, none⟩ = some (.slice p.actions.A p.actions.l.length p.actions.c) := st1.prog.cell 4
  have c5 : U.cell? ⟨gP, 5, none⟩ = some (.slice p.tables.A p.tables.l.length p.tables.c) := st1.prog.cell 5
  have c6 : U.cell? ⟨gP, 6, none⟩ = some (.slice p.states.A p.states.l.length p.states.c) := st1.prog.cell 6
  have c7 : U.cell? ⟨gP, 7, none⟩ = some (.slice p.control.A p.control.l.length p.control.c) := st1.prog.cell 7
  have c8 : U.cell? ⟨gP, 8, none⟩ = some (.slice p.deparser.A p.deparser.l.length p.deparser.c) := st1.prog.cell 8
  have cu : U.cell? ⟨gU, 0, none⟩ = some (.slice A us.length c) := st1.used.cell 0
  have d0 : U.cell? ⟨w.heap.size, 0, none⟩ = some (.int .i64 x.kind) := hB.cell 0
  have d1 : U.cell? ⟨w.heap.size, 1, none⟩ = some (.int .i64 x.table) := hB.cell 1
  have d2 : U.cell? ⟨w.heap.size, 2, none⟩ = some (.slice x.cond.A x.cond.l.length x.cond.c) := hB.cell 2
  have d3 : U.cell? ⟨w.heap.size, 3, none⟩ = some (.slice x.th.A x.th.l.length x.th.c) := hB.cell 3
  have d4 : U.cell? ⟨w.heap.size, 4, none⟩ = some (.slice x.el.A x.el.l.length x.el.c) := hB.cell 4
  have HB := hi_ hB
  have HS1 := hi_ st1
  have hul : us.length ≤ maxLen := by unfold maxLen; omega
  have HUl := hi_ hul
  clear o hx st hu1 hUU hB st1 hul
  go_enter Tryz.func178, Tryz.ntmps178
  go_upto_region 1 with fail
  rw [← hU]
  clear hU
  go_wp2_with fail
  refine (checkNode_any p x us A c U (HO.out.below HS1.out.base) ((ctl_parts HX.out).1.below HS1.out.base (Nat.le_refl _)) (own_lok HS1.out.row HUl.out) hl).mono ?_
  rintro e w1 ⟨rfl, hb1⟩
  have st2 := HS1.out.below hb1
  have hB2 := HB.out.below hb1 HB.out.lt
  have HG1 := hi_ (HG.out.trans (Grow.of_below hb1))
  clear c0 c1 c2 c3 c4 c5 c6 c7 c8 cu d0 d1 d2 d3 d4 hb1
  have ce : w1.cell? ⟨gE, 0, none⟩ = some (.int .i64 0) := st2.err.cell 0
  have cf : w1.frozen? ⟨gE, 0, none⟩ = false := st2.err.frozen 0
  refine Exists.elim (⟨_, rfl⟩ : ∃ V, V = w1.setCell ⟨gE, 0, none⟩ (.int .i64 (nodeM p us x))) fun V hV => ?_
  have st3 : CkSt B0 p gP gE gN gU (nodeM p us x) n us A c V := by rw [hV]; exact st2.setErr (by omega) h1 h2 h3 _
  have HG2 : Hid (Grow w V) := hi_ (by rw [hV]; exact HG1.out.setCell (a := ⟨gE, 0, none⟩) st2.err (by decide) _)
  have hB3 : Blk V w.heap.size 169 (ctlCells x) := by rw [hV]; exact hB2.far (by have := HST.out.err.lt; simp only; omega) _
  have HB3 := hi_ hB3
  have HS3 := hi_ st3
  have ce2 : V.cell? ⟨gE, 0, none⟩ = some (.int .i64 (nodeM p us x)) := st3.err.cell 0
  clear st2 st3 hB2 hB3
  go_upto_region 2 with fail
  rw [← hV]
  clear hV ce cf
  cases hok : nodeM p us x == 0
  · go_wp2
    go_ret
    exact ⟨ret_bool hok.symm, HG2.out, fun h => absurd (hok.symm.trans h) (by simp), fun _ => HS3.out⟩
  have h00 : nodeM p us x = 0 := by simpa using hok
  rw [h00] at HS3 ce2
  have e0 : V.cell? ⟨w.heap.size, 0, none⟩ = some (.int .i64 x.kind) := HB3.out.cell 0
  have e1 : V.cell? ⟨w.heap.size, 1, none⟩ = some (.int .i64 x.table) := HB3.out.cell 1
  have e2 : V.cell? ⟨w.heap.size, 2, none⟩ = some (.slice x.cond.A x.cond.l.length x.cond.c) := HB3.out.cell 2
  have e3 : V.cell? ⟨w.heap.size, 3, none⟩ = some (.slice x.th.A x.th.l.length x.th.c) := HB3.out.cell 3
  have e4 : V.cell? ⟨w.heap.size, 4, none⟩ = some (.slice x.el.A x.el.l.length x.el.c) := HB3.out.cell 4
  clear h00
  go_wp2_with fail
  refine (applies_any x V).mono ?_
  rintro e w2 ⟨rfl, hb2⟩
  have st4 := HS3.out.below hb2
  have HG3 := hi_ (HG2.out.trans (Grow.of_below hb2))
  have hB4 := HB3.out.below hb2 HB3.out.lt
  have f1 : w2.cell? ⟨w.heap.size, 1, none⟩ = some (.int .i64 x.table) := hB4.cell 1
  clear e0 e1 e2 e3 e4 ce2 hb2
  cases hap : appliesM x
  · have cn : w2.cell? ⟨gN, 0, none⟩ = some (.int .i64 n) := st4.cnt.cell 0
    have cf : w2.frozen? ⟨gN, 0, none⟩ = false := st4.cnt.frozen 0
    have HS5 := hi_ (st4.setCnt (by omega) h1 h2 h3 (n + 1))
    have HG5 := hi_ (HG3.out.setCell (a := ⟨gN, 0, none⟩) st4.cnt (by decide) (.int .i64 ((n + 1 : Nat) : Int)))
    rw [show ((n + 1 : Nat) : Int) = (n : Int) + 1 by omega] at HS5 HG5
    clear st4 hB4 f1
    go_wp2
    go_ret
    refine ⟨ret_bool hok.symm, HG5.out, fun _ => ⟨A, c, ?_⟩, fun h => absurd (hok.symm.trans h) (by simp)⟩
    rw [usedN_no hap]
    exact HS5.out
  · obtain ⟨i0, hi, hz0, hz1, hz2⟩ := info_parts (show (Tryz.prog.info? 3).map (fun i => (i.zero, i.size, i.bytes)) = some (some (.int .i64 0), 1, 8) by kernel_rfl)
    have cu : w2.cell? ⟨gU, 0, none⟩ = some (.slice A us.length c) := st4.used.cell 0
    have HS4 := hi_ st4
    have hsz := st4.used.lt
    clear st4 hB4
    go_wp2_with (first
      | (at_builtin; refine wpList_append_own _ rfl _ _ 29 rfl (gU + 1) 3 i0 _ 1 8 Tryz.underlying29 hi hz0 hz1 hz2 rfl (by decide) _ us.length (ints us) rfl (HS4.out.row.alloc _) ⟨w2.heap.size, 0, none⟩ 1 1 [.int .i64 x.table] rfl rfl ?c1 ?c2 ?c3 ?c4 ?c5 ?_))
    case c1 =>
      intro j v hj
      match j, hj with
      | 0, hj => simp at hj; subst hj; simp [Addr.add]
    case c2 => intro u hu; simp at hu; subst hu; rfl
    case c3 => unfold maxLen; omega
    case c4 => omega
    case c5 => simp; omega
    intro v' w4 hown4 hgrow4 _
    obtain ⟨A', c', rfl⟩ : ∃ A' c', v' = .slice A' (us.length + 1) c' := by
      rcases hown4.2 with ⟨hv, h0⟩ | ⟨g', cap, cur, hv, _, _, _⟩
      · omega
      · exact ⟨_, _, hv⟩
    have hne : some gU ≠ (Value.slice A us.length c).ownBlock := fun e => by have := (HS4.out.row.lt _ e.symm).1; omega
    have hnN : some gN ≠ (Value.slice A us.length c).ownBlock := fun e => by have := (HS4.out.row.lt _ e.symm).1; omega
    have hnE : some gE ≠ (Value.slice A us.length c).ownBlock := fun e => by have := (HS4.out.row.lt _ e.symm).1; omega
    have hnP : some gP ≠ (Value.slice A us.length c).ownBlock := fun e => by have := (HS4.out.row.lt _ e.symm).1; omega
    have hbU := (HS4.out.used.alloc (.cells #[.int .i64 x.table] 3)).grown hgrow4 hne
    have hbN := (HS4.out.cnt.alloc (.cells #[.int .i64 x.table] 3)).grown hgrow4 hnN
    have hbE := (HS4.out.err.alloc (.cells #[.int .i64 x.table] 3)).grown hgrow4 hnE
    have hbP := (HS4.out.prog.alloc (.cells #[.int .i64 x.table] 3)).grown hgrow4 hnP
    have hbase := (below_alloc HS4.out.base (.cells #[.int .i64 x.table] 3)).grown hgrow4 (below_alloc HS4.out.base (.cells #[.int .i64 x.table] 3)).size fun j hj => by have := (HS4.out.row.lt _ hj).1; omega
    have HG4 := hi_ ((HG3.out.alloc (.cells #[.int .i64 x.table] 3)).append (HS4.out.row.alloc _) (by decide) hgrow4)
    have cu4 : w4.cell? ⟨gU, 0, none⟩ = some (.slice A us.length c) := hbU.cell 0
    have cf4 : w4.frozen? ⟨gU, 0, none⟩ = false := hbU.frozen 0
    refine Exists.elim (⟨_, rfl⟩ : ∃ V, V = w4.setCell ⟨gU, 0, none⟩ (.slice A' (us.length + 1) c')) fun V hV => ?_
    have hle : (usedN us x).length = us.length + 1 := by rw [usedN_yes hap, List.length_append]; rfl
    have st5 : CkSt B0 p gP gE gN gU 0 n (usedN us x) A' c' V := by
      rw [hV]
      refine ⟨hbase.setCell (by simp only; omega) _, hbP.far (by simp only; omega) _, hbE.far (by simp only; omega) _, hbN.far (by simp only; omega) _, ?_, ?_⟩
      · rw [hle]; exact hbU.set_ 0 _
      · rw [hle, show ints (usedN us x) = ints us ++ [.int .i64 x.table] by rw [usedN_yes hap]; simp [ints]]
        exact hown4.kept (grown_setCell _ _ _) (.inr (fun e => by have := (hown4.lt _ e).1; simp only at this; omega))
    have HG5 : Hid (Grow w V) := hi_ (by rw [hV]; exact HG4.out.setCell (a := ⟨gU, 0, none⟩) hbU (by decide) _)
    have cn : V.cell? ⟨gN, 0, none⟩ = some (.int .i64 n) := st5.cnt.cell 0
    have cf : V.frozen? ⟨gN, 0, none⟩ = false := st5.cnt.frozen 0
    have HS6 := hi_ (st5.setCnt (by omega) h1 h2 h3 (n + 1))
    have HG6 := hi_ (HG5.out.setCell (a := ⟨gN, 0, none⟩) st5.cnt (by decide) (.int .i64 ((n + 1 : Nat) : Int)))
    rw [show ((n + 1 : Nat) : Int) = (n : Int) + 1 by omega] at HS6 HG6
    clear st5 hbU hbN hbE hbP hbase hne hnN hnE hnP hown4 hgrow4 hle f1 cu
    go_upto_region 6 with fail
    rw [← hV]
    clear hV cu4 cf4
    go_wp2
    go_ret
    exact ⟨ret_bool hok.symm, HG6.out, fun _ => ⟨A', c', HS6.out⟩, fun h => absurd (hok.symm.trans h) (by simp)⟩
def okN (p : ProgD) (l : List CtlD) (x : CtlD) : Bool := nodeM p (usedM l) x == 0
theorem nodeAtM_at (p : ProgD) (l : List CtlD) (i : Nat) (x : CtlD) (h : l[i]? = some x) : nodeAtM p l i = if nodeM p (usedM (l.take i)) x ≠ 0 then some ((i : Int), nodeM p (usedM (l.take i)) x) else none := by
  rw [nodeAtM, h]
theorem run_none (p : ProgD) : ∀ (post pre : List CtlD), runM (okN p) pre post = none → ∀ i, pre.length ≤ i → i < (pre ++ post).length → nodeAtM p (pre ++ post) i = none
  | [], pre, _, i, h1, h2 => by rw [List.append_nil] at h2; omega
  | x :: post, pre, h, i, h1, h2 => by
    rw [runM] at h
    by_cases hok : okN p pre x = true
    · rw [if_pos hok] at h
      by_cases he : i = pre.length
      · subst he
        rw [nodeAtM_at p _ _ x (by simp), List.take_left, if_neg]
        simpa [okN] using hok
      · have := run_none p post (pre ++ [x]) h i (by simp; omega) (by simp at h2 ⊢; omega)
        simpa using this
    · rw [if_neg hok] at h; cases h
theorem run_some (p : ProgD) : ∀ (post pre l' : List CtlD) (y : CtlD), runM (okN p) pre post = some (l', y) → ∃ rest, pre ++ post = l' ++ y :: rest ∧ pre.length ≤ l'.length ∧ nodeM p (usedM l') y ≠ 0 ∧ ∀ i, pre.length ≤ i → i < l'.length → nodeAtM p (pre ++ post) i = none
  | [], pre, l', y, h => by rw [runM] at h; cases h
  | x :: post, pre, l', y, h => by
    rw [runM] at h
    by_cases hok : okN p pre x = true
    · rw [if_pos hok] at h
      obtain ⟨rest, h1, h2, h3, h4⟩ := run_some p post (pre ++ [x]) l' y h
      refine ⟨rest, by simpa using h1, by simp at h2; omega, h3, fun i hi hi2 => ?_⟩
      by_cases he : i = pre.length
      · subst he
        rw [nodeAtM_at p _ _ x (by simp), List.take_left, if_neg]
        simpa [okN] using hok
      · have := h4 i (by simp; omega) hi2
        simpa using this
    · rw [if_neg hok] at h
      injection h with h
      injection h with e1 e2
      subst e1 e2
      exact ⟨post, rfl, Nat.le_refl _, by simpa [okN] using hok, fun i h1 h2 => absurd h2 (by omega)⟩
theorem ctlM_eq (p : ProgD) : ctlM p = if 24 < (presM p.control.l).length then (-1, 12) else if 6 < nestM p.control.l then (-1, 14) else match runM (okN p) [] (presM p.control.l) with
    | some (l', y) => ((l'.length : Int), nodeM p (usedM l') y)
    | none => (0, 0) := by
  rw [ctlM]
  split
  · rfl
  split
  · rfl
  rcases h : runM (okN p) [] (presM p.control.l) with _ | ⟨l', y⟩
  · rw [firstE_none (fun j hj => by have := run_none p _ [] h j (Nat.zero_le _) hj; exact this)]
  · obtain ⟨rest, h1, _, h3, h4⟩ := run_some p _ [] l' y h
    rw [List.nil_append] at h1 h4
    have hl : l'.length < (presM p.control.l).length := by rw [h1]; simp
    have hy : nodeAtM p (presM p.control.l) l'.length = some ((l'.length : Int), nodeM p (usedM l') y) := by
      rw [nodeAtM_at p _ _ y (by rw [h1]; simp), show (presM p.control.l).take l'.length = l' by rw [h1, List.take_left], if_pos h3]
    rw [firstE_some hl (fun j hj => h4 j (Nat.zero_le _) hj) hy]
theorem check_visits (B0 : World) (p : ProgD) (o : ProgOk B0 p) (gP gE gN gU : Nat) (h0 : B0.heap.size ≤ gP) (h1 : gP < gE) (h2 : gE < gN) (h3 : gN < gU) :
    Visits 90000 B0 178 #[.pointer (some ⟨gP, 0, none⟩), .pointer (some ⟨gU, 0, none⟩), .pointer (some ⟨gE, 0, none⟩), .pointer (some ⟨gN, 0, none⟩)] (okN p)
      (fun l w => ∃ A c, CkSt B0 p gP gE gN gU 0 l.length (usedM l) A c w) (fun l x w => ∃ A c, CkSt B0 p gP gE gN gU (nodeM p (usedM l) x) l.length (usedM l) A c w) := by
  refine ⟨?_, fun l w ⟨A, c, h⟩ => h.base, fun l w ob ⟨A, c, h⟩ => ⟨A, c, h.below (below1 _ _)⟩⟩
  rintro l x w hl hx ⟨A, c, st⟩
  have l1 := pres_len x.th.l
  have l2 := pres_len x.el.l
  refine (check1_any B0 p o gP gE gN gU h0 h1 h2 h3 x l.length (usedM l) A c w hx (by omega) (by omega) (used_len l) st).mono ?_
  rintro e w' ⟨rfl, hg, hy, hn⟩
  refine ⟨rfl, hg, fun h => ?_, fun h => ⟨A, c, hn h⟩⟩
  obtain ⟨A', c', h'⟩ := hy h
  refine ⟨A', c', ?_⟩
  rw [used_snoc, List.length_append]
  exact h'
theorem controlCheck_any (p : ProgD) (w : World) (o : ProgOk w p) (hN : (presM p.control.l).length ≤ 90000) :
    Calls Tryz.prog 136 #[.agg (progCells p)] w fun e w' => e = .returned (.tuple #[.int .i64 (ctlM p).1, .int .i64 (ctlM p).2]) ∧ Below w.heap.size w w' := by
  have hmf : ∀ (fn : Fn) (first cap : Array Value) (w : World), (Instr.makeFunc fn first cap).run Tryz.prog w = .ok (.func fn first cap) w := fun _ _ _ _ => rfl
  have HO := hi_ o
  have HN := hi_ hN
  have HR := hi_ (ctlM_eq p)
  obtain ⟨W, hW, hw, HB, hp⟩ := box2 w (progCells p) 31 #[.int .i64 0] 37
  have HW := hi_ hw
  have hbP : Blk W w.heap.size 31 (progCells p) := by rw [hW]; exact (Blk.new _ _ _).alloc _
  have hbE : Blk W (w.heap.size + 1) 37 #[.int .i64 0] := by rw [hW]; exact (by simpa using Blk.new (w.alloc (.cells (progCells p) 31)) 37 #[.int .i64 0])
  have HP := hi_ hbP
  have HE := hi_ hbE
  clear o hN hw hbP hbE
  go_enter Tryz.func136, Tryz.ntmps136
  go_upto_region 1 with fail
  rw [← hW]
  clear hW
  go_wp2_with fail
  refine (count_any p.control _ (HO.out.control.below (below_step HW.out HB) (Nat.le_refl _)) (CtlsOk.below (below_step HW.out HB) HO.out.ctl) HN.out).mono ?_
  rintro e w1 ⟨rfl, hbN⟩
  replace HB := below_step (by first | exact HB | exact below_alloc HB _ | exact ba2 HB | exact ba3 HB) hbN
  clear hbN
  have hE1 := HE.out.below HB HE.out.lt
  have ce1 : w1.cell? ⟨w.heap.size + 1, 0, none⟩ = some (.int .i64 0) := hE1.cell 0
  have cf1 : w1.frozen? ⟨w.heap.size + 1, 0, none⟩ = false := hE1.frozen 0
  by_cases k1 : 24 < (presM p.control.l).length
  · replace HR := hi_ (HR.out.trans (if_pos k1))
    have hcc : (w1.setCell ⟨w.heap.size + 1, 0, none⟩ (.int .i64 12)).cell? ⟨w.heap.size + 1, 0, none⟩ = some (.int .i64 12) := (hE1.set_ 0 _).cell 0
    have HF : Hid (Below w.heap.size w (w1.setCell ⟨w.heap.size + 1, 0, none⟩ (.int .i64 12))) := hi_ ((below_step HW.out HB).setCell (Nat.le_succ _) _)
    clear hE1
    go_wp2
    refine bodyPost_ret (v := .tuple #[.int .i64 (-1), .int .i64 12]) (by simp [results, Tryz.results136, go_sem, hcc]) rfl ⟨ret_pp HR.out, HF.out⟩
  replace HR := hi_ (HR.out.trans (if_neg k1))
  have k1' : (presM p.control.l).length ≤ 24 := by omega
  clear k1
  clear hE1
  go_wp2_with fail
  clear ce1 cf1
  have hnle := nest_le p.control.l
  have HNl : Hid (nestM p.control.l ≤ 90000) := hi_ (by omega)
  clear hnle
  refine (nesting_any (nestM p.control.l + 1) p.control _ (Nat.lt_succ_self _) HNl.out (HO.out.control.below (below_step HW.out HB) (Nat.le_refl _)) (CtlsOk.below (below_step HW.out HB) HO.out.ctl)).mono ?_
  rintro e w2 ⟨rfl, hbN⟩
  replace HB := below_step (by first | exact HB | exact below_alloc HB _ | exact ba2 HB | exact ba3 HB) hbN
  clear hbN
  have hE1 := HE.out.below HB HE.out.lt
  have ce1 : w2.cell? ⟨w.heap.size + 1, 0, none⟩ = some (.int .i64 0) := hE1.cell 0
  have cf1 : w2.frozen? ⟨w.heap.size + 1, 0, none⟩ = false := hE1.frozen 0
  by_cases k2 : 6 < nestM p.control.l
  · replace HR := hi_ (HR.out.trans (if_pos k2))
    have hcc : (w2.setCell ⟨w.heap.size + 1, 0, none⟩ (.int .i64 14)).cell? ⟨w.heap.size + 1, 0, none⟩ = some (.int .i64 14) := (hE1.set_ 0 _).cell 0
    have HF : Hid (Below w.heap.size w (w2.setCell ⟨w.heap.size + 1, 0, none⟩ (.int .i64 14))) := hi_ ((below_step HW.out HB).setCell (Nat.le_succ _) _)
    clear hE1
    go_wp2
    refine bodyPost_ret (v := .tuple #[.int .i64 (-1), .int .i64 14]) (by simp [results, Tryz.results136, go_sem, hcc]) rfl ⟨ret_pp HR.out, HF.out⟩
  replace HR := hi_ (HR.out.trans (if_neg k2))
  have k2' : nestM p.control.l ≤ 6 := by omega
  clear k2
  obtain ⟨V, hV, hv, _, _⟩ := box2 w2 #[.int .i64 0] 3 #[.slice none 0 0] 29
  have HBV := below_step HB hv
  have hsz : w.heap.size + 1 < w2.heap.size := hE1.lt
  have hst : CkSt w p w.heap.size (w.heap.size + 1) w2.heap.size (w2.heap.size + 1) 0 0 [] none 0 V := by
    refine ⟨below_step HW.out HBV, HP.out.below HBV HP.out.lt, HE.out.below HBV HE.out.lt, ?_, ?_, World.ownsRow_nil _ _ _ _⟩
    · rw [hV]; exact (Blk.new _ _ _).alloc _
    · rw [hV]; exact (by simpa using Blk.new (w2.alloc (.cells #[.int .i64 0] 3)) 29 #[.slice none 0 0])
  have HST := hi_ hst
  have HSZ := hi_ hsz
  have hca := @World.cell?_alloc_some
  have hp2 := (hp w2 HB).1 7 (show 7 < 9 by decide)
  clear hE1 hst hv HBV hsz
  go_wp2_with fail
  rw [← hV]
  clear hV hca ce1 cf1
  refine (preorder_any 90000 w 178 #[.pointer (some ⟨w.heap.size, 0, none⟩), .pointer (some ⟨w2.heap.size + 1, 0, none⟩), .pointer (some ⟨w.heap.size + 1, 0, none⟩), .pointer (some ⟨w2.heap.size, 0, none⟩)] _ _ _
    (check_visits w p HO.out w.heap.size (w.heap.size + 1) w2.heap.size (w2.heap.size + 1) (Nat.le_refl _) (by omega) HSZ.out (by omega)) (.inr ⟨rfl, _, _, _, _, rfl⟩) (nestM p.control.l + 1) p.control [] _ (Nat.lt_succ_self _) (by simpa using HN.out)
    HO.out.control HO.out.ctl ⟨none, 0, HST.out⟩).mono ?_
  rintro e w3 ⟨_, hm⟩
  rcases hrun : runM (okN p) [] (presM p.control.l) with _ | ⟨l', y⟩
  · rw [hrun] at hm
    obtain ⟨rfl, A', c', st⟩ := hm
    have HR2 := hi_ (HR.out.trans (show _ = ((0 : Int), (0 : Int)) by rw [hrun]))
    have ce : w3.cell? ⟨w.heap.size + 1, 0, none⟩ = some (.int .i64 0) := st.err.cell 0
    have cf : w3.frozen? ⟨w.heap.size + 1, 0, none⟩ = false := st.err.frozen 0
    have hcc : (w3.setCell ⟨w.heap.size + 1, 0, none⟩ (.int .i64 0)).cell? ⟨w.heap.size + 1, 0, none⟩ = some (.int .i64 0) := (st.err.set_ 0 _).cell 0
    have HF : Hid (Below w.heap.size w (w3.setCell ⟨w.heap.size + 1, 0, none⟩ (.int .i64 0))) := hi_ (st.base.setCell (Nat.le_succ _) _)
    clear st hrun
    go_wp2
    refine bodyPost_ret (v := .tuple #[.int .i64 0, .int .i64 0]) (by simp [results, Tryz.results136, go_sem, hcc]) rfl ⟨ret_pp HR2.out, HF.out⟩
  · have hne : nodeM p (usedM l') y ≠ 0 := (run_some p _ [] l' y hrun).choose_spec.2.2.1
    rw [hrun] at hm
    obtain ⟨rfl, A', c', st⟩ := hm
    have HR2 := hi_ (HR.out.trans (show _ = ((l'.length : Int), nodeM p (usedM l') y) by rw [hrun]))
    have hne' : (nodeM p (usedM l') y == 0) = false := beq_eq_false_iff_ne.2 hne
    generalize nodeM p (usedM l') y = ec at *
    have ce : w3.cell? ⟨w.heap.size + 1, 0, none⟩ = some (.int .i64 ec) := st.err.cell 0
    have cf : w3.frozen? ⟨w.heap.size + 1, 0, none⟩ = false := st.err.frozen 0
    have cn : w3.cell? ⟨w2.heap.size, 0, none⟩ = some (.int .i64 l'.length) := st.cnt.cell 0
    have hcc : (w3.setCell ⟨w.heap.size + 1, 0, none⟩ (.int .i64 ec)).cell? ⟨w.heap.size + 1, 0, none⟩ = some (.int .i64 ec) := (st.err.set_ 0 _).cell 0
    have HF : Hid (Below w.heap.size w (w3.setCell ⟨w.heap.size + 1, 0, none⟩ (.int .i64 ec))) := hi_ (st.base.setCell (Nat.le_succ _) _)
    clear st hrun hne
    go_wp2
    clear hp HST
    go_region
    all_goals
      go_wp2
      refine bodyPost_ret (v := .tuple #[.int .i64 l'.length, .int .i64 ec]) (by simp [results, Tryz.results136, go_sem, hcc]) rfl ⟨ret_pp HR2.out, HF.out.drew⟩
end Go.Proofs.YtbfjknidinkafaaGreat
