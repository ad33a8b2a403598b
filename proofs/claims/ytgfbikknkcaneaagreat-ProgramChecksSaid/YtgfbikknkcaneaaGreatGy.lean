/- The walks of the reference's check of control nodes. No condition but that the program lies in memory, at most 90000 nodes. The walks of the reference's checks of a program's lists: limits, headers, registers, actions, tables. No condition but that the program lies in memory and its numbers are of their kinds. -/
import Derived.Test.YtgfbikknkcaneaaGreatGx
import Derived.Test.YtgfbikknkcaneaaGreatClD
namespace Go.Proofs.YtgfbikknkcaneaaGreat
open Go.RowKit

theorem rapplies_any (x : CtlD) (w : World) : Calls Tryz.prog 209 #[.agg (ctlCells x)] w fun e w' => e = .returned (.bool (appliesM x)) ∧ Below w.heap.size w w' := by
  have HR := Lib.hid (appliesM.eq_1 x)
  by_cases h1 : x.kind = 1
  · have HR2 : Hid (appliesM x = true) := Lib.hid (by rw [HR.out, h1]; rfl)
    have h1' : (x.kind == 1) = true := beq_iff_eq.2 h1
    clear h1
    go_enter Tryz.func209, Tryz.ntmps209
    go_wp2
    go_ret
    exact ⟨by rw [HR2.out]; rfl, below1 _ _⟩
  · have h1' : (x.kind == 1) = false := beq_eq_false_iff_ne.2 h1
    by_cases h2 : x.kind = 3
    · have HR2 : Hid (appliesM x = true) := Lib.hid (by rw [HR.out, h2]; rfl)
      have h2' : (x.kind == 3) = true := beq_iff_eq.2 h2
      clear h1 h2
      go_enter Tryz.func209, Tryz.ntmps209
      go_wp2
      go_ret
      exact ⟨by rw [HR2.out]; rfl, below1 _ _⟩
    · have HR2 : Hid (appliesM x = false) := Lib.hid (by rw [HR.out]; simp [h1, h2])
      have h2' : (x.kind == 3) = false := beq_eq_false_iff_ne.2 h2
      clear h1 h2
      go_enter Tryz.func209, Tryz.ntmps209
      go_wp2
      go_ret
      exact ⟨by rw [HR2.out]; rfl, below1 _ _⟩
/-- node j applies table t -/
def hitsM (t : Int) (x : CtlD) : Bool := appliesM x && decide (x.table = t)
theorem used_hits {l : List CtlD} {k : Nat} {t : Int} (hk : k ≤ l.length) : t ∈ usedM (l.take k) ↔ ∃ j, ∃ h : j < l.length, j < k ∧ hitsM t l[j] = true := by
  rw [usedM, List.mem_map]
  constructor
  · rintro ⟨y, hy, e⟩
    obtain ⟨h1, h2⟩ := List.mem_filter.1 hy
    obtain ⟨j, hj, e2⟩ := List.mem_take_iff_getElem.1 h1
    refine ⟨j, by omega, by omega, ?_⟩
    rw [hitsM, e2, h2, e]; simp
  · rintro ⟨j, hj, hjk, h⟩
    rw [hitsM, Bool.and_eq_true, decide_eq_true_eq] at h
    exact ⟨l[j], List.mem_filter.2 ⟨List.mem_take_iff_getElem.2 ⟨j, by omega, rfl⟩, h.1⟩, h.2⟩
/-- a node before i applies table t -/
def appM (l : List CtlD) (i : Nat) (t : Int) : Bool := decide (t ∈ usedM (l.take i))
theorem appM_iff (l : List CtlD) (i : Nat) (t : Int) : appM l i t = true ↔ t ∈ usedM (l.take i) := by rw [appM, decide_eq_true_eq]
set_option linter.unusedSimpArgs false in
set_option maxRecDepth 100000 in
set_option maxHeartbeats 8000000 in
theorem rapplied_any (x : L CtlD) (at_ : Nat) (w : World) (h : LOk w 5 CtlD.cells x) (ha : at_ < x.l.length) :
    Calls Tryz.prog 189 #[.slice x.A x.l.length x.c, .int .i64 at_] w fun e w' => e = .returned (.bool (appM x.l at_ x.l[at_].table)) ∧ Below w.heap.size w w' := by
  obtain ⟨l, A0, c0⟩ := x
  have HX := Lib.hid h
  have hmx : l.length ≤ 9223372036854775807 := h.1
  clear h
  simp only at ha hmx ⊢
  have HU := Lib.hid ((appM_iff l at_ l[at_].table).trans (used_hits (l := l) (k := at_) (t := l[at_].table) (by omega)))
  obtain ⟨g, of, hA, hall⟩ := CtlD.allA HX.out (show 0 < l.length by omega)
  simp only at hA hall
  subst hA
  have HAL := Lib.hid hall
  have HAt := Lib.hid (fun w' h => (hall w' h at_ ha).2.1)
  clear hall
  generalize l[at_].table = t at *
  go_enter Tryz.func189, Tryz.ntmps189
  go_wp2
  go_loopw [5] (fun iv wr => ∃ k : Nat, k ≤ at_ ∧ iv = .int .i64 k ∧ Hid (∀ j (hj : j < l.length), j < k → hitsM t l[j] = false) ∧ Below w.heap.size w wr) (fun i _ => at_ - (intOf i).toNat)
  case atStart => exact ⟨0, Nat.zero_le _, rfl, Lib.hid (fun j _ hj => absurd hj (Nat.not_lt_zero _)), Below.refl _ _⟩
  case round =>
  obtain ⟨k, hk, rfl, HK, HB⟩ := hrel
  by_cases hlt : k < at_
  · have hkl : k < l.length := by omega
    have hq1 := fun w' (h : Below wr.heap.size wr w') => HAL.out w' (below_step HB h) k hkl
    have hq2 := fun w' (h : Below wr.heap.size wr w') => HAt.out w' (below_step HB h)
    have HYes : Hid (hitsM t l[k] = true → appM l at_ t = true) := Lib.hid (fun e => HU.out.2 ⟨k, hkl, hlt, e⟩)
    have HNo : Hid (hitsM t l[k] = false → ∀ j (hj : j < l.length), j < k + 1 → hitsM t l[j] = false) := Lib.hid (fun e j hj hjk => by
      rcases Nat.lt_succ_iff_lt_or_eq.1 hjk with h1 | rfl
      · exact HK.out j hj h1
      · exact e)
    have hn1 : (k : Int) < (l.length : Int) := by omega
    have hn2 : (at_ : Int) < (l.length : Int) := by omega
    have HAp : Hid (∀ u, Calls Tryz.prog 209 #[.agg (ctlCells l[k])] u fun e w' => e = .returned (.bool (appliesM l[k])) ∧ Below u.heap.size u w') := Lib.hid (fun u => rapplies_any l[k] u)
    generalize l[k] = y at *
    have HVV := Lib.hid HB
    have H0 := Lib.hid (Below.refl wr.heap.size wr)
    clear HB
    have HHt := Lib.hid (hitsM.eq_1 t y)
    cases hap : appliesM y
    · have HZ := Lib.hid (HNo.out (by rw [HHt.out, hap]; rfl))
      rw [hap] at HAp
      clear HYes HNo
      have hq3 := hq1 wr H0.out
      go_wp2
      refine wp_region_held_drew (S := fun w' => Below wr.heap.size wr w') (by kernel_rfl) (below_drew H0.out) (fun hHeld => ?_)
      refine wpAnyH_take (i := 0) (oi := { dst := some 11, op := .move (.tmp 0), type := 28, pos := "ref.go:65", after := #[], guard := none }) (v := ?v0) rfl (by kernel_rfl) (by kernel_rfl) (by kernel_rfl) (fun _ _ _ h => h) (Or.inl ⟨by rfl, ?y0⟩) (by assumption) ?r0
      case y0 => (intro w hSw; (try dsimp only at hSw); go_simp; try (with_reducible rfl))
      try simp only [Act.put, List.setIfInBounds_toArray, List.set_cons_zero, List.set_cons_succ]
      refine wpAnyH_take (i := 1) (oi := { dst := some 12, op := .move (.tmp 5), type := 3, pos := "ref.go:65", after := #[], guard := none }) (v := ?v1) rfl (by kernel_rfl) (by kernel_rfl) (by kernel_rfl) (fun _ _ _ h => h) (Or.inl ⟨by rfl, ?y1⟩) (by assumption) ?r1
      case y1 => (intro w hSw; (try dsimp only at hSw); go_simp; try (with_reducible rfl))
      try simp only [Act.put, List.setIfInBounds_toArray, List.set_cons_zero, List.set_cons_succ]
      refine wpAnyH_take (i := 2) (oi := { dst := some 13, op := .indexAddr 28 (.tmp 11) (.tmp 12), type := 0, pos := "ref.go:65", after := #[{ on := 0, ground := .data }, { on := 1, ground := .data }], guard := none }) (v := ?v2) rfl (by kernel_rfl) (by kernel_rfl) (by kernel_rfl) (fun _ _ _ h => h) (Or.inl ⟨by rfl, ?y2⟩) (by assumption) ?r2
      case y2 => (intro w hSw; (try dsimp only at hSw); go_simp; try (with_reducible rfl))
      try simp only [Act.put, List.setIfInBounds_toArray, List.set_cons_zero, List.set_cons_succ]
      refine wpAnyH_take (i := 3) (oi := { dst := some 14, op := .load 106 (.tmp 13), type := 106, pos := "ref.go:65", after := #[{ on := 2, ground := .data }], guard := none }) (v := ?v3) rfl (by kernel_rfl) (by kernel_rfl) (by kernel_rfl) (fun _ _ _ h => h) (Or.inl ⟨by rfl, ?y3⟩) (by assumption) ?r3
      case y3 => (intro w hSw; (try dsimp only at hSw); go_simp; try (with_reducible rfl))
      try simp only [Act.put, List.setIfInBounds_toArray, List.set_cons_zero, List.set_cons_succ]
      refine wpAnyH_ready (rs := [4]) (by kernel_rfl) (by simp) ?_
      refine AllReadyH.cons (o := { dst := some 15, op := .call { callee := .value (.func 209), args := #[.tmp 14], argTypes := #[106] }, type := 4, pos := "ref.go:65", after := #[{ on := 3, ground := .data }], guard := none }) rfl (fun K hK => ?_) AllReadyH.nil
      go_simp
      go_at_call 209
      refine (HAp.out _).mono ?_
      rintro e w1 ⟨rfl, hb1⟩
      refine hK.out _ _ (below_step hHeld hb1) (fun hHeld2 => ?_)
      clear hK K
      try simp only [Act.put, List.setIfInBounds_toArray, List.set_cons_zero, List.set_cons_succ]
      refine wpAnyH_take (i := 5) (oi := { dst := some 16, op := .move (.tmp 15), type := 4, pos := "ref.go:65", after := #[{ on := 4, ground := .data }, { on := 4, ground := .chain }], guard := none }) (v := ?v5) rfl (by kernel_rfl) (by kernel_rfl) (by kernel_rfl) (fun _ _ _ h => h) (Or.inl ⟨by rfl, ?y5⟩) (by assumption) ?r5
      case y5 => (intro w hSw; (try dsimp only at hSw); go_simp; try (with_reducible rfl))
      try simp only [Act.put, List.setIfInBounds_toArray, List.set_cons_zero, List.set_cons_succ]
      refine wpAnyH_take (i := 6) (oi := { dst := some 17, op := .move (.tmp 0), type := 28, pos := "ref.go:65", after := #[{ on := 5, ground := .guard }], guard := some (5, true) }) (v := undef) rfl (by kernel_rfl) (by kernel_rfl) (by kernel_rfl) (fun _ _ _ h => h) (Or.inr ⟨by rfl, rfl⟩) (by assumption) ?_
      try simp only [Act.put, List.setIfInBounds_toArray, List.set_cons_zero, List.set_cons_succ]
      refine wpAnyH_take (i := 7) (oi := { dst := some 18, op := .move (.tmp 5), type := 3, pos := "ref.go:65", after := #[{ on := 5, ground := .guard }], guard := some (5, true) }) (v := undef) rfl (by kernel_rfl) (by kernel_rfl) (by kernel_rfl) (fun _ _ _ h => h) (Or.inr ⟨by rfl, rfl⟩) (by assumption) ?_
      try simp only [Act.put, List.setIfInBounds_toArray, List.set_cons_zero, List.set_cons_succ]
      refine wpAnyH_take (i := 8) (oi := { dst := some 19, op := .indexAddr 28 (.tmp 17) (.tmp 18), type := 0, pos := "ref.go:65", after := #[{ on := 6, ground := .data }, { on := 7, ground := .data }, { on := 5, ground := .guard }], guard := some (5, true) }) (v := undef) rfl (by kernel_rfl) (by kernel_rfl) (by kernel_rfl) (fun _ _ _ h => h) (Or.inr ⟨by rfl, rfl⟩) (by assumption) ?_
      try simp only [Act.put, List.setIfInBounds_toArray, List.set_cons_zero, List.set_cons_succ]
      refine wpAnyH_take (i := 9) (oi := { dst := some 20, op := .fieldAddr 106 (.tmp 19) 1, type := 0, pos := "ref.go:65", after := #[{ on := 8, ground := .data }, { on := 5, ground := .guard }], guard := some (5, true) }) (v := undef) rfl (by kernel_rfl) (by kernel_rfl) (by kernel_rfl) (fun _ _ _ h => h) (Or.inr ⟨by rfl, rfl⟩) (by assumption) ?_
      try simp only [Act.put, List.setIfInBounds_toArray, List.set_cons_zero, List.set_cons_succ]
      refine wpAnyH_take (i := 10) (oi := { dst := some 21, op := .load 3 (.tmp 20), type := 3, pos := "ref.go:65", after := #[{ on := 9, ground := .data }, { on := 5, ground := .guard }], guard := some (5, true) }) (v := undef) rfl (by kernel_rfl) (by kernel_rfl) (by kernel_rfl) (fun _ _ _ h => h) (Or.inr ⟨by rfl, rfl⟩) (by assumption) ?_
      try simp only [Act.put, List.setIfInBounds_toArray, List.set_cons_zero, List.set_cons_succ]
      refine wpAnyH_take (i := 11) (oi := { dst := some 22, op := .move (.tmp 0), type := 28, pos := "ref.go:65", after := #[{ on := 5, ground := .guard }], guard := some (5, true) }) (v := undef) rfl (by kernel_rfl) (by kernel_rfl) (by kernel_rfl) (fun _ _ _ h => h) (Or.inr ⟨by rfl, rfl⟩) (by assumption) ?_
      try simp only [Act.put, List.setIfInBounds_toArray, List.set_cons_zero, List.set_cons_succ]
      refine wpAnyH_take (i := 12) (oi := { dst := some 23, op := .move (.tmp 1), type := 3, pos := "ref.go:65", after := #[{ on := 5, ground := .guard }], guard := some (5, true) }) (v := undef) rfl (by kernel_rfl) (by kernel_rfl) (by kernel_rfl) (fun _ _ _ h => h) (Or.inr ⟨by rfl, rfl⟩) (by assumption) ?_
      try simp only [Act.put, List.setIfInBounds_toArray, List.set_cons_zero, List.set_cons_succ]
      refine wpAnyH_take (i := 13) (oi := { dst := some 24, op := .indexAddr 28 (.tmp 22) (.tmp 23), type := 0, pos := "ref.go:65", after := #[{ on := 11, ground := .data }, { on := 12, ground := .data }, { on := 5, ground := .guard }], guard := some (5, true) }) (v := undef) rfl (by kernel_rfl) (by kernel_rfl) (by kernel_rfl) (fun _ _ _ h => h) (Or.inr ⟨by rfl, rfl⟩) (by assumption) ?_
      try simp only [Act.put, List.setIfInBounds_toArray, List.set_cons_zero, List.set_cons_succ]
      refine wpAnyH_take (i := 14) (oi := { dst := some 25, op := .fieldAddr 106 (.tmp 24) 1, type := 0, pos := "ref.go:65", after := #[{ on := 13, ground := .data }, { on := 5, ground := .guard }], guard := some (5, true) }) (v := undef) rfl (by kernel_rfl) (by kernel_rfl) (by kernel_rfl) (fun _ _ _ h => h) (Or.inr ⟨by rfl, rfl⟩) (by assumption) ?_
      try simp only [Act.put, List.setIfInBounds_toArray, List.set_cons_zero, List.set_cons_succ]
      refine wpAnyH_take (i := 15) (oi := { dst := some 26, op := .load 3 (.tmp 25), type := 3, pos := "ref.go:65", after := #[{ on := 14, ground := .data }, { on := 5, ground := .guard }], guard := some (5, true) }) (v := undef) rfl (by kernel_rfl) (by kernel_rfl) (by kernel_rfl) (fun _ _ _ h => h) (Or.inr ⟨by rfl, rfl⟩) (by assumption) ?_
      try simp only [Act.put, List.setIfInBounds_toArray, List.set_cons_zero, List.set_cons_succ]
      refine wpAnyH_take (i := 16) (oi := { dst := some 27, op := .binOp .eql 3 (.tmp 21) (.tmp 26) 3, type := 4, pos := "ref.go:65", after := #[{ on := 10, ground := .data }, { on := 15, ground := .data }, { on := 5, ground := .guard }], guard := some (5, true) }) (v := undef) rfl (by kernel_rfl) (by kernel_rfl) (by kernel_rfl) (fun _ _ _ h => h) (Or.inr ⟨by rfl, rfl⟩) (by assumption) ?_
      try simp only [Act.put, List.setIfInBounds_toArray, List.set_cons_zero, List.set_cons_succ]
      refine wpAnyH_take (i := 17) (oi := { dst := some 28, op := .pick (.tmp 16) (.tmp 27) (.const (Value.bool false)), type := 4, pos := "ref.go:65", after := #[{ on := 5, ground := .data }, { on := 16, ground := .data }], guard := none }) (v := ?v17) rfl (by kernel_rfl) (by kernel_rfl) (by kernel_rfl) (fun _ _ _ h => h) (Or.inl ⟨by rfl, ?y17⟩) (by assumption) ?r17
      case y17 => (intro w hSw; (try dsimp only at hSw); go_simp; try (with_reducible rfl))
      try simp only [Act.put, List.setIfInBounds_toArray, List.set_cons_zero, List.set_cons_succ]
      refine wpAnyH_done (by kernel_rfl) ?_ _
      have HB5 : Hid (Below wr.heap.size wr _) := Lib.hid hHeld2
      go_wp2
      go_roundw
      case rel => exact ⟨k + 1, by omega, by go_num, HZ, below_step HVV.out HB5.out⟩
      case measure => simp [intOf]; omega
    · rw [hap] at HAp
      by_cases ht : y.table = t
      · have HZ := Lib.hid (HYes.out (by rw [HHt.out, hap, decide_eq_true ht]; rfl))
        have ht' : (y.table == t) = true := beq_iff_eq.2 ht
        clear HYes HNo ht
        go_wp2
        go_region_held3 (fun w' => Below wr.heap.size wr w') (first | exact H0.out | exact below_drew H0.out | (exact below_step (by assumption) (by assumption)) | assumption)
          (first | (go_at_call 209; refine (HAp.out _).mono ?_; rintro e w1 ⟨rfl, hb1⟩))
        have HB5 : Hid (Below wr.heap.size wr _) := Lib.hid (by assumption)
        go_wp2
        go_ret
        exact ⟨by rw [HZ.out]; rfl, below_step HVV.out HB5.out⟩
      · have HZ := Lib.hid (HNo.out (by rw [HHt.out, hap, decide_eq_false ht]; rfl))
        have ht' : (y.table == t) = false := beq_eq_false_iff_ne.2 ht
        clear HYes HNo ht
        go_wp2
        go_region_held3 (fun w' => Below wr.heap.size wr w') (first | exact H0.out | exact below_drew H0.out | (exact below_step (by assumption) (by assumption)) | assumption)
          (first | (go_at_call 209; refine (HAp.out _).mono ?_; rintro e w1 ⟨rfl, hb1⟩))
        have HB5 : Hid (Below wr.heap.size wr _) := Lib.hid (by assumption)
        go_wp2
        go_roundw
        case rel => exact ⟨k + 1, by omega, by go_num, HZ, below_step HVV.out HB5.out⟩
        case measure => simp [intOf]; omega
  · have e : k = at_ := by omega
    have HZ : Hid (appM l at_ t = false) := Lib.hid (by
      rw [← Bool.not_eq_true, HU.out]
      rintro ⟨j, hj, hjk, h⟩
      rw [HK.out j hj (by omega)] at h
      cases h)
    go_wp2
    go_ret
    exact ⟨by rw [HZ.out]; rfl, HB⟩

theorem rexprCheck_nil (p : ProgD) (x : L NodeD) (w : World) (o : ProgOk w p) (hx : LOk w 3 NodeD.cells x) :
    Calls Tryz.prog 183 #[.slice x.A x.l.length x.c, .agg (scopeCells p ⟨[], none, 0⟩)] w fun e w' => e = .returned (.tuple #[.int .i64 (exprM p [] x.l).1, .int .i64 (exprM p [] x.l).2]) ∧ Below w.heap.size w w' :=
  rexprCheck_any p ⟨[], none, 0⟩ x w o ⟨Nat.zero_le _, .inl rfl⟩ hx
set_option maxRecDepth 100000 in
set_option maxHeartbeats 16000000 in
theorem rcheckNode_any (p : ProgD) (x : L CtlD) (i : Nat) (w : World) (o : ProgOk w p) (h : LOk w 5 CtlD.cells x) (hi : i < x.l.length) (hx : LOk w 3 NodeD.cells x.l[i].cond) (hle : x.l[i].th.l.length + x.l[i].el.l.length ≤ 90000) :
    Calls Tryz.prog 160 #[.agg (progCells p), .slice x.A x.l.length x.c, .int .i64 i] w fun e w' => e = .returned (.int .i64 (nodeM p (usedM (x.l.take i)) x.l[i])) ∧ Below w.heap.size w w' := by
  obtain ⟨l, A0, c0⟩ := x
  simp only at hi hx hle ⊢
  have HO := Lib.hid o
  obtain ⟨W, hW, hw, HB, hp⟩ := box1 w (progCells p) 31
  have HW := Lib.hid hw
  have HX := Lib.hid (h.below hw (Nat.le_refl _))
  have HCd := Lib.hid (hx.below hw (Nat.le_refl _))
  have HAp := Lib.hid (fun u (hb : Below W.heap.size W u) => rapplied_any ⟨l, A0, c0⟩ i u (HX.out.below hb (Nat.le_refl _)) hi)
  obtain ⟨g, of, hA, hq⟩ := CtlD.atA HX.out hi
  have hn1 : (i : Int) < (l.length : Int) := by omega
  have HR := Lib.hid (nodeM_eq p (usedM (l.take i)) l[i])
  have HMm := Lib.hid (appM_iff l i l[i].table)
  clear o h hx hw
  simp only at hA HAp
  subst hA
  generalize usedM (l.take i) = us at *
  generalize l[i] = y at *
  obtain ⟨kd, tb, cd, tl, el, tA, eA, tc, ec⟩ := y
  simp only [CtlD.kind, CtlD.table, CtlD.cond, CtlD.th, CtlD.el] at hq HR HCd hle HAp HMm
  generalize appM l i tb = am at *
  go_enter Tryz.func160, Tryz.ntmps160
  go_upto_region 1 with fail
  rw [← hW]
  clear hW
  refine Exists.elim (box1 W #[.int .i64 kd, .int .i64 tb, .slice cd.A cd.l.length cd.c, .slice tA tl.length tc, .slice eA el.length ec] 106) ?_
  rintro U ⟨hU, hu, hUU, hc⟩
  go_upto_region 2 with fail
  rw [← hU]
  clear hU
  have HU := Lib.hid hu
  have hp2 := fun w' h => hp w' (below_step hu h)
  have hc3 := hc U hUU
  replace HB := hUU
  clear hp hUU hu hq
  by_cases k13 : kd = 1 ∨ kd = 3
  · replace HR := Lib.hid (HR.out.trans (if_pos k13))
    have k2 : (kd == 2) = false := beq_eq_false_iff_ne.2 (by omega)
    have kk1 : ¬ kd < 1 := by omega
    have kk2 : ¬ 3 < kd := by omega
    have hcase : tb < 0 ∨ (0 ≤ tb ∧ (p.tables.l.length : Int) ≤ tb) ∨ (0 ≤ tb ∧ tb < (p.tables.l.length : Int)) := by omega
    have hp3 := hp2 U HB
    rcases hcase with h1 | ⟨h1, h2⟩ | ⟨h1, h2⟩
    · replace HR := Lib.hid (HR.out.trans (if_pos (Or.inl h1)))
      go_wp2
      go_ret
      exact ⟨by rw [HR.out]; rfl, below_step HW.out (below_step HU.out HB)⟩
    · replace HR := Lib.hid (HR.out.trans (if_pos (Or.inr h2)))
      go_wp2
      go_ret
      exact ⟨by rw [HR.out]; rfl, below_step HW.out (below_step HU.out HB)⟩
    replace HR := Lib.hid (HR.out.trans (if_neg (show ¬ (tb < 0 ∨ (p.tables.l.length : Int) ≤ tb) by omega)))
    go_wp2_with fail
    refine (HAp.out _ (below_step HU.out (by first | exact HB | exact below_alloc HB _ | exact below_alloc (below_alloc HB _) _ | exact below_alloc (below_alloc (below_alloc HB _) _) _))).mono ?_
    rintro e w1 ⟨rfl, hbN⟩
    replace HB := below_step (by first | exact HB | exact below_alloc HB _ | exact below_alloc (below_alloc HB _) _ | exact below_alloc (below_alloc (below_alloc HB _) _) _) hbN
    clear hbN
    clear hc3 hp3
    have hc3 := hc _ HB
    cases am
    case true =>
      replace HR := Lib.hid (HR.out.trans (if_pos (HMm.out.1 rfl)))
      go_wp2
      go_ret
      exact ⟨by rw [HR.out]; rfl, below_step HW.out (below_step HU.out HB)⟩
    replace HR := Lib.hid (HR.out.trans (if_neg (fun h => by have := HMm.out.2 h; cases this)))
    rcases k13 with rfl | rfl
    · have hsum : ¬ ((0 : Int) < (tl.length : Int) + (el.length : Int)) ∨ (0 : Int) < (tl.length : Int) + (el.length : Int) := by omega
      have hwr : IntKind.i64.wrap ((tl.length : Int) + (el.length : Int)) = (tl.length : Int) + (el.length : Int) := IntWalk.i64_in _ (by omega)
      rcases hsum with hs | hs
      all_goals
        first
          | replace HR := Lib.hid (HR.out.trans (if_neg (show ¬ ((1 : Int) = 1 ∧ 0 < tl.length + el.length) by omega)))
          | replace HR := Lib.hid (HR.out.trans (if_pos (show ((1 : Int) = 1 ∧ 0 < tl.length + el.length) from ⟨rfl, by omega⟩)))
        go_wp2
        go_ret
        exact ⟨by rw [HR.out]; rfl, below_step HW.out (below_step HU.out HB)⟩
    · replace HR := Lib.hid (HR.out.trans (if_neg (show ¬ ((3 : Int) = 1 ∧ 0 < tl.length + el.length) by omega)))
      go_wp2
      go_ret
      exact ⟨by rw [HR.out]; rfl, below_step HW.out (below_step HU.out HB)⟩
  replace HR := Lib.hid (HR.out.trans (if_neg k13))
  by_cases h2 : kd = 2
  · subst h2
    replace HR := Lib.hid (HR.out.trans (if_pos rfl))
    have hp3 := hp2 U HB
    clear k13
    go_wp2_with fail
    refine (rexprCheck_nil p cd _ (HO.out.below (below_step HW.out (below_step HU.out (by first | exact HB | exact below_alloc HB _ | exact below_alloc (below_alloc HB _) _ | exact below_alloc (below_alloc (below_alloc HB _) _) _)))) (HCd.out.below (below_step HU.out (by first | exact HB | exact below_alloc HB _ | exact below_alloc (below_alloc HB _) _ | exact below_alloc (below_alloc (below_alloc HB _) _) _)) (Nat.le_refl _))).mono ?_
    rintro e w1 ⟨rfl, hbN⟩
    replace HB := below_step (by first | exact HB | exact below_alloc HB _ | exact below_alloc (below_alloc HB _) _ | exact below_alloc (below_alloc (below_alloc HB _) _) _) hbN
    clear hbN
    clear hc3 hp3
    by_cases k5 : (exprM p [] cd.l).2 = 0
    · replace HR := Lib.hid (HR.out.trans (if_neg (fun h => h k5)))
      have k5' : ((exprM p [] cd.l).2 == 0) = true := beq_iff_eq.2 k5
      have K5 := Lib.hid k5
      clear k5
      by_cases k6 : (exprM p [] cd.l).1 = 1
      · replace HR := Lib.hid (HR.out.trans (if_neg (fun h => h k6)))
        have k6' : ((exprM p [] cd.l).1 == 1) = true := beq_iff_eq.2 k6
        have k7 : ((exprM p [] cd.l).1 != 1) = false := by rw [bne, k6']; rfl
        clear k6
        go_wp2
        go_ret
        exact ⟨by rw [HR.out]; exact congrArg (fun x => Ending.returned (.int .i64 x)) K5.out, below_step HW.out (below_step HU.out HB)⟩
      · have k6' : ((exprM p [] cd.l).1 == 1) = false := beq_eq_false_iff_ne.2 k6
        have k7 : ((exprM p [] cd.l).1 != 1) = true := by rw [bne, k6']; rfl
        replace HR := Lib.hid (HR.out.trans (if_pos k6))
        clear k6
        go_wp2
        go_ret
        exact ⟨by rw [HR.out]; rfl, below_step HW.out (below_step HU.out HB)⟩
    · have k5' : ((exprM p [] cd.l).2 == 0) = false := beq_eq_false_iff_ne.2 k5
      replace HR := Lib.hid (HR.out.trans (if_pos k5))
      clear k5
      go_wp2
      go_ret
      exact ⟨by rw [HR.out]; rfl, below_step HW.out (below_step HU.out HB)⟩
  replace HR := Lib.hid (HR.out.trans (if_neg h2))
  have hcase : kd < 1 ∨ (¬ kd < 1 ∧ 3 < kd) := by omega
  clear k13 h2
  rcases hcase with h1 | ⟨h1, h2⟩
  all_goals
    go_wp2
    go_ret
    exact ⟨by rw [HR.out]; rfl, below_step HW.out (below_step HU.out HB)⟩

mutual
theorem pre_ok {w : World} : ∀ (x : CtlD), CtlOk w x → ∀ y ∈ preM x, CtlOk w y
  | .mk k t c th el tA eA tc ec, o, y, hy => by
    rw [preM] at hy
    rcases List.mem_cons.1 hy with rfl | hy
    · exact o
    · rw [CtlOk] at o
      rcases List.mem_append.1 hy with h | h
      · exact pres_ok th o.2.2.2.1 y h
      · exact pres_ok el o.2.2.2.2 y h
theorem pres_ok {w : World} : ∀ (l : List CtlD), CtlsOk w l → ∀ y ∈ presM l, CtlOk w y
  | [], _, y, hy => by rw [presM] at hy; cases hy
  | x :: l, o, y, hy => by
    rw [presM] at hy
    rw [CtlsOk] at o
    rcases List.mem_append.1 hy with h | h
    · exact pre_ok x o.1 y h
    · exact pres_ok l o.2 y h
end
mutual
theorem pre_sub : ∀ (x : CtlD), ∀ y ∈ preM x, (preM y).length ≤ (preM x).length
  | .mk k t c th el tA eA tc ec, y, hy => by
    rw [preM] at hy
    rcases List.mem_cons.1 hy with rfl | hy
    · exact Nat.le_refl _
    · rw [preM, List.length_cons, List.length_append]
      rcases List.mem_append.1 hy with h | h
      · have := pres_sub th y h
        omega
      · have := pres_sub el y h
        omega
theorem pres_sub : ∀ (l : List CtlD), ∀ y ∈ presM l, (preM y).length ≤ (presM l).length
  | [], y, hy => by rw [presM] at hy; cases hy
  | x :: l, y, hy => by
    rw [presM] at hy
    rw [presM, List.length_append]
    rcases List.mem_append.1 hy with h | h
    · have := pre_sub x y h
      omega
    · have := pres_sub l y h
      omega
end
theorem pres_kids {l : List CtlD} {y : CtlD} (h : y ∈ presM l) : y.th.l.length + y.el.l.length ≤ (presM l).length := by
  have h1 := pres_sub l y h
  rw [preM_eq, List.length_cons, List.length_append] at h1
  have h2 := pres_len y.th.l
  have h3 := pres_len y.el.l
  omega
set_option maxRecDepth 100000 in
set_option maxHeartbeats 8000000 in
theorem rcontrolCheck_any (p : ProgD) (w : World) (o : ProgOk w p) (hN : (presM p.control.l).length ≤ 90000) :
    Calls Tryz.prog 105 #[.agg (progCells p)] w fun e w' => e = .returned (.tuple #[.int .i64 (ctlM p).1, .int .i64 (ctlM p).2]) ∧ Below w.heap.size w w' := by
  have HO := Lib.hid o
  have HN := Lib.hid hN
  obtain ⟨W, hW, hw, HB, hp⟩ := box1 w (progCells p) 31
  have HW := Lib.hid hw
  have HR := Lib.hid (ctlM.eq_1 p)
  have HNe := Lib.hid (nest_le p.control.l)
  have hN0 : ((presM p.control.l).length : Int) ≤ 90000 := by omega
  have HS := Lib.hid (fun i (h : i < (presM p.control.l).length) => nodeAtM_at p (presM p.control.l) i (presM p.control.l)[i] (List.getElem?_eq_getElem h))
  have HK := Lib.hid (fun i (h : i < (presM p.control.l).length) => pres_kids (List.getElem_mem h))
  have HOk := Lib.hid (fun u (ou : CtlsOk u p.control.l) i (h : i < (presM p.control.l).length) => (ctl_parts (pres_ok p.control.l ou _ (List.getElem_mem h))).1)
  clear o hw hN
  go_enter Tryz.func105, Tryz.ntmps105
  go_upto_region 1 with fail
  rw [← hW]
  clear hW
  have hp3 := hp W HB
  go_wp2_with fail
  refine (rcount_any ((presM p.control.l).length + 1) p.control _ (Nat.lt_succ_self _) HN.out (HO.out.control.below (below_step HW.out (by first | exact HB | exact below_alloc HB _ | exact below_alloc (below_alloc HB _) _ | exact below_alloc (below_alloc (below_alloc HB _) _) _)) (Nat.le_refl _)) (CtlsOk.below (below_step HW.out (by first | exact HB | exact below_alloc HB _ | exact below_alloc (below_alloc HB _) _ | exact below_alloc (below_alloc (below_alloc HB _) _) _)) HO.out.ctl)).mono ?_
  rintro e w1 ⟨rfl, hbN⟩
  replace HB := below_step (by first | exact HB | exact below_alloc HB _ | exact below_alloc (below_alloc HB _) _ | exact below_alloc (below_alloc (below_alloc HB _) _) _) hbN
  clear hbN
  clear hp3
  have hp3 := hp _ HB
  by_cases k1 : 24 < (presM p.control.l).length
  · replace HR := Lib.hid (HR.out.trans (if_pos k1))
    have k1' : (24 : Int) < ((presM p.control.l).length : Int) := by omega
    clear k1
    go_wp2
    go_ret2
    exact ⟨ret_pp HR.out, below_step HW.out HB⟩
  replace HR := Lib.hid (HR.out.trans (if_neg k1))
  have k1' : ¬ (24 : Int) < ((presM p.control.l).length : Int) := by omega
  go_wp2_with fail
  refine (rnesting_any (nestM p.control.l + 1) p.control _ (Nat.lt_succ_self _) (Nat.le_trans HNe.out HN.out) (HO.out.control.below (below_step HW.out (by first | exact HB | exact below_alloc HB _ | exact below_alloc (below_alloc HB _) _ | exact below_alloc (below_alloc (below_alloc HB _) _) _)) (Nat.le_refl _)) (CtlsOk.below (below_step HW.out (by first | exact HB | exact below_alloc HB _ | exact below_alloc (below_alloc HB _) _ | exact below_alloc (below_alloc (below_alloc HB _) _) _)) HO.out.ctl)).mono ?_
  rintro e w2 ⟨rfl, hbN⟩
  replace HB := below_step (by first | exact HB | exact below_alloc HB _ | exact below_alloc (below_alloc HB _) _ | exact below_alloc (below_alloc (below_alloc HB _) _) _) hbN
  clear hbN
  clear hp3
  have hp3 := hp _ HB
  by_cases k2 : 6 < nestM p.control.l
  · replace HR := Lib.hid (HR.out.trans (if_pos k2))
    have k2' : (6 : Int) < (nestM p.control.l : Int) := by omega
    clear k1 k2
    go_wp2
    go_ret2
    exact ⟨ret_pp HR.out, below_step HW.out HB⟩
  replace HR := Lib.hid (HR.out.trans (if_neg k2))
  have k2' : ¬ (6 : Int) < (nestM p.control.l : Int) := by omega
  clear k1 k2
  go_wp2_with fail
  refine (rpre_any ((presM p.control.l).length + 1) p.control _ (Nat.lt_succ_self _) HN.out (HO.out.control.below (below_step HW.out HB) (Nat.le_refl _)) (CtlsOk.below (below_step HW.out HB) HO.out.ctl)).mono ?_
  rintro e w3 ⟨A, cp, rfl, hown, hbN⟩
  replace HB := below_step HB hbN
  obtain ⟨A2, c2, e2, _, hL, _, _⟩ := own_list (l := presM p.control.l) (cells := CtlD.cells) (fun _ => rfl) hown
  cases e2
  have HL := Lib.hid hL
  have HB1 := Lib.hid HB
  clear hbN hown hL hp3
  generalize presM p.control.l = l at *
  go_wp2
  clear HB
  go_loopw [5, 6] (fun iv _ wr => ∃ k : Nat, k ≤ l.length ∧ iv = .int .i64 k ∧ (∀ j, j < k → nodeAtM p l j = none) ∧ Below w3.heap.size w3 wr) (fun i _ _ => l.length - (intOf i).toNat)
  case atStart => exact ⟨0, Nat.zero_le _, rfl, fun j h => absurd h (Nat.not_lt_zero _), Below.refl _ _⟩
  case round =>
    obtain ⟨k, hk, rfl, hpre, HB⟩ := hrel
    have HPre := Lib.hid hpre
    clear hpre
    have hp3 := hp wr (below_step HB1.out HB)
    by_cases hlt : k < l.length
    · have HE := Lib.hid (HS.out k hlt)
      have HCS := Lib.hid (fun u (hb : Below w3.heap.size w3 u) => rcheckNode_any p ⟨l, A, cp⟩ k u (HO.out.below (below_step HW.out (below_step HB1.out hb))) (HL.out.below hb (Nat.le_refl _)) hlt (HOk.out u (CtlsOk.below (below_step HW.out (below_step HB1.out hb)) HO.out.ctl) k hlt) (Nat.le_trans (HK.out k hlt) HN.out))
      have hlt' : (k : Int) < (l.length : Int) := by omega
      simp only at HCS
      generalize nodeM p (usedM (l.take k)) l[k] = nm at *
      go_wp2_with fail
      refine (HCS.out _ (by first | exact HB | exact below_alloc HB _ | exact below_alloc (below_alloc HB _) _ | exact below_alloc (below_alloc (below_alloc HB _) _) _)).mono ?_
      rintro e w4 ⟨rfl, hbN⟩
      replace HB := below_step (by first | exact HB | exact below_alloc HB _ | exact below_alloc (below_alloc HB _) _ | exact below_alloc (below_alloc (below_alloc HB _) _) _) hbN
      clear hbN
      by_cases k1 : nm = 0
      · subst k1
        have HP2 := Lib.hid (firstE_step HPre.out (HE.out.trans (if_neg (by simp))))
        go_wp2
        go_roundw
        case rel => exact ⟨k + 1, by omega, by go_num, HP2.out, HB⟩
        case measure => simp [intOf]; omega
      · have HR2 := Lib.hid (HR.out.trans (show _ = ((k : Int), nm) by rw [firstE_some hlt HPre.out (HE.out.trans (if_pos k1))]))
        have k1' : (nm == 0) = false := beq_eq_false_iff_ne.2 k1
        clear k1
        go_wp2
        go_ret2
        exact ⟨ret_pp HR2.out, below_step HW.out (below_step HB1.out HB)⟩
    · have e : k = l.length := by omega
      have HR2 := Lib.hid (HR.out.trans (show _ = ((0 : Int), (0 : Int)) by rw [firstE_none (by rw [← e]; exact HPre.out)]))
      go_wp2
      go_ret2
      exact ⟨ret_pp HR2.out, below_step HW.out (below_step HB1.out HB)⟩
end Go.Proofs.YtgfbikknkcaneaaGreat
namespace Go.Proofs.YtgfbikknkcaneaaGreat
open Go.RowKit

/-- a diagnostic, or none -/
def dgV (d : Option DiagD) : Value := (d.getD noDiag).val
theorem put_diag {w : World} {k : Nat} {a b c d : Value} (h : Blk w k 45 #[a, b, c, d]) (x y z u : Value) :
    Blk ((((w.setCell ⟨k, 0, none⟩ x).setCell ⟨k, 1, none⟩ y).setCell ⟨k, 2, none⟩ z).setCell ⟨k, 3, none⟩ u) k 45 #[x, y, z, u] := (((h.set_ 0 x).set_ 1 y).set_ 2 z).set_ 3 u
theorem put_below {w w1 : World} {B k : Nat} (hb : Below B w w1) (hk : B ≤ k) (x y z u : Value) :
    Below B w ((((w1.setCell ⟨k, 0, none⟩ x).setCell ⟨k, 1, none⟩ y).setCell ⟨k, 2, none⟩ z).setCell ⟨k, 3, none⟩ u) := (((hb.setCell hk _).setCell hk _).setCell hk _).setCell hk _
theorem rat_any (c p i s : Int) (w : World) :
    Calls Tryz.prog 99 #[.int .i64 c, .int .i64 p, .int .i64 i, .int .i64 s] w fun e w' => e = .returned (.agg #[.int .i64 c, .int .i64 p, .int .i64 i, .int .i64 s]) ∧ Below w.heap.size w w' := by
  go_enter Tryz.func99, Tryz.ntmps99
  go_wp2
  refine bodyPost_ret (v := .agg #[.int .i64 c, .int .i64 p, .int .i64 i, .int .i64 s]) (by simp [results, Tryz.results99, go_sem]) rfl ⟨rfl, below1 _ _⟩
/-- the program's box and the result's cell -/
theorem boxD (w : World) (p : ProgD) : ∃ W, W = (w.alloc (.cells (progCells p) 31)).alloc (.cells #[.int .i64 0, .int .i64 0, .int .i64 0, .int .i64 0] 45) ∧ Below w.heap.size w W ∧ Below W.heap.size W W ∧
    (∀ w', Below W.heap.size W w' → (∀ i, i < (progCells p).size → w'.cell? ⟨w.heap.size, i, none⟩ = (progCells p)[i]?) ∧ (∀ i, i < 4 → w'.cell? ⟨w.heap.size + 1, i, none⟩ = some (.int .i64 0)) ∧ (∀ i, w'.frozen? ⟨w.heap.size + 1, i, none⟩ = false)) ∧
    ∀ w', Below W.heap.size W w' → Blk w' (w.heap.size + 1) 45 #[.int .i64 0, .int .i64 0, .int .i64 0, .int .i64 0] := by
  obtain ⟨W, h1, h2, h3, _, h5⟩ := boxC w (progCells p) 31 #[.int .i64 0, .int .i64 0, .int .i64 0, .int .i64 0] 45
  refine ⟨W, h1, h2, h3, fun w' h => ⟨(h5 w' h).1, fun i hi => ?_, (h5 w' h).2.2.2.1⟩, fun w' h => (h5 w' h).2.2.2.2⟩
  rw [(h5 w' h).2.1 i hi]
  match i, hi with
  | 0, _ => rfl
  | 1, _ => rfl
  | 2, _ => rfl
  | 3, _ => rfl

set_option maxRecDepth 100000 in
set_option maxHeartbeats 8000000 in
theorem rwhole_any (p : ProgD) (w : World) (o : ProgOk w p) :
    Calls Tryz.prog 42 #[.agg (progCells p)] w fun e w' => e = .returned (dgV (limM p)) ∧ Below w.heap.size w w' := by
  have HS := Lib.hid o.name
  have HR := Lib.hid (limM.eq_1 p)
  obtain ⟨W, hW, hw, HB, hp, hQ⟩ := boxD w p
  have HW := Lib.hid hw
  have HQ := Lib.hid hQ
  clear o hw hQ
  go_enter Tryz.func42, Tryz.ntmps42
  go_upto_region 1 with fail
  rw [← hW]
  clear hW
  have hp3 := hp W HB
  go_wp2_with fail
  refine (risIdent_any p.name _ HS.out).mono ?_
  rintro e w' ⟨rfl, rfl⟩
  cases h1 : identM p.name.data.toList
  · replace HR := Lib.hid (HR.out.trans (if_pos (show ident p.name = false from h1)))
    go_wp2_with fail
    refine (rat_any 6 0 0 0 _).mono ?_
    rintro e w1 ⟨rfl, hbN⟩
    replace HB := below_step (by first | exact HB | exact below_alloc HB _ | exact below_alloc (below_alloc HB _) _ | exact below_alloc (below_alloc (below_alloc HB _) _) _) hbN
    clear hbN
    replace hp3 := hp _ HB
    go_wp2
    refine bodyPost_ret (v := .agg #[.int .i64 (6), .int .i64 (0), .int .i64 (0), .int .i64 (0)]) ?_ rfl ?_
    · exact results_cell_row (fn := Tryz.f42) (p := 2) (ty := 45) rfl _ _ (w.heap.size + 1) 45 #[.int .i64 (6), .int .i64 (0), .int .i64 (0), .int .i64 (0)] (0, 0) _ rfl (put_diag (HQ.out _ HB) _ _ _ _) Tryz.underlying45 rfl (by kernel_rfl)
    · exact ⟨by first | (rw [HR.out]; done) | (rw [HR.out]; rfl), put_below (below_step HW.out HB) (Nat.le_succ _) _ _ _ _⟩
  replace HR := Lib.hid (HR.out.trans (if_neg (show ¬ ident p.name = false by rw [show ident p.name = true from h1]; simp)))
  clear h1
  by_cases k1 : 8 < p.headers.l.length
  · replace HR := Lib.hid (HR.out.trans (if_pos k1))
    go_wp2_with fail
    refine (rat_any 12 0 1 0 _).mono ?_
    rintro e w1 ⟨rfl, hbN⟩
    replace HB := below_step (by first | exact HB | exact below_alloc HB _ | exact below_alloc (below_alloc HB _) _ | exact below_alloc (below_alloc (below_alloc HB _) _) _) hbN
    clear hbN
    replace hp3 := hp _ HB
    go_wp2
    refine bodyPost_ret (v := .agg #[.int .i64 (12), .int .i64 (0), .int .i64 (1), .int .i64 (0)]) ?_ rfl ?_
    · exact results_cell_row (fn := Tryz.f42) (p := 2) (ty := 45) rfl _ _ (w.heap.size + 1) 45 #[.int .i64 (12), .int .i64 (0), .int .i64 (1), .int .i64 (0)] (0, 0) _ rfl (put_diag (HQ.out _ HB) _ _ _ _) Tryz.underlying45 rfl (by kernel_rfl)
    · exact ⟨by first | (rw [HR.out]; done) | (rw [HR.out]; rfl), put_below (below_step HW.out HB) (Nat.le_succ _) _ _ _ _⟩
  replace HR := Lib.hid (HR.out.trans (if_neg k1))
  by_cases k2 : 4 < p.registers.l.length
  · replace HR := Lib.hid (HR.out.trans (if_pos k2))
    go_wp2_with fail
    refine (rat_any 12 0 3 0 _).mono ?_
    rintro e w1 ⟨rfl, hbN⟩
    replace HB := below_step (by first | exact HB | exact below_alloc HB _ | exact below_alloc (below_alloc HB _) _ | exact below_alloc (below_alloc (below_alloc HB _) _) _) hbN
    clear hbN
    replace hp3 := hp _ HB
    go_wp2
    refine bodyPost_ret (v := .agg #[.int .i64 (12), .int .i64 (0), .int .i64 (3), .int .i64 (0)]) ?_ rfl ?_
    · exact results_cell_row (fn := Tryz.f42) (p := 2) (ty := 45) rfl _ _ (w.heap.size + 1) 45 #[.int .i64 (12), .int .i64 (0), .int .i64 (3), .int .i64 (0)] (0, 0) _ rfl (put_diag (HQ.out _ HB) _ _ _ _) Tryz.underlying45 rfl (by kernel_rfl)
    · exact ⟨by first | (rw [HR.out]; done) | (rw [HR.out]; rfl), put_below (below_step HW.out HB) (Nat.le_succ _) _ _ _ _⟩
  replace HR := Lib.hid (HR.out.trans (if_neg k2))
  by_cases k3 : 16 < p.actions.l.length
  · replace HR := Lib.hid (HR.out.trans (if_pos k3))
    go_wp2_with fail
    refine (rat_any 12 0 4 0 _).mono ?_
    rintro e w1 ⟨rfl, hbN⟩
    replace HB := below_step (by first | exact HB | exact below_alloc HB _ | exact below_alloc (below_alloc HB _) _ | exact below_alloc (below_alloc (below_alloc HB _) _) _) hbN
    clear hbN
    replace hp3 := hp _ HB
    go_wp2
    refine bodyPost_ret (v := .agg #[.int .i64 (12), .int .i64 (0), .int .i64 (4), .int .i64 (0)]) ?_ rfl ?_
    · exact results_cell_row (fn := Tryz.f42) (p := 2) (ty := 45) rfl _ _ (w.heap.size + 1) 45 #[.int .i64 (12), .int .i64 (0), .int .i64 (4), .int .i64 (0)] (0, 0) _ rfl (put_diag (HQ.out _ HB) _ _ _ _) Tryz.underlying45 rfl (by kernel_rfl)
    · exact ⟨by first | (rw [HR.out]; done) | (rw [HR.out]; rfl), put_below (below_step HW.out HB) (Nat.le_succ _) _ _ _ _⟩
  replace HR := Lib.hid (HR.out.trans (if_neg k3))
  by_cases k4 : 12 < p.tables.l.length
  · replace HR := Lib.hid (HR.out.trans (if_pos k4))
    go_wp2_with fail
    refine (rat_any 12 0 5 0 _).mono ?_
    rintro e w1 ⟨rfl, hbN⟩
    replace HB := below_step (by first | exact HB | exact below_alloc HB _ | exact below_alloc (below_alloc HB _) _ | exact below_alloc (below_alloc (below_alloc HB _) _) _) hbN
    clear hbN
    replace hp3 := hp _ HB
    go_wp2
    refine bodyPost_ret (v := .agg #[.int .i64 (12), .int .i64 (0), .int .i64 (5), .int .i64 (0)]) ?_ rfl ?_
    · exact results_cell_row (fn := Tryz.f42) (p := 2) (ty := 45) rfl _ _ (w.heap.size + 1) 45 #[.int .i64 (12), .int .i64 (0), .int .i64 (5), .int .i64 (0)] (0, 0) _ rfl (put_diag (HQ.out _ HB) _ _ _ _) Tryz.underlying45 rfl (by kernel_rfl)
    · exact ⟨by first | (rw [HR.out]; done) | (rw [HR.out]; rfl), put_below (below_step HW.out HB) (Nat.le_succ _) _ _ _ _⟩
  replace HR := Lib.hid (HR.out.trans (if_neg k4))
  go_wp2
  refine bodyPost_ret (v := .agg #[.int .i64 (0), .int .i64 (0), .int .i64 (0), .int .i64 (0)]) ?_ rfl ?_
  · exact results_cell_row (fn := Tryz.f42) (p := 2) (ty := 45) rfl _ _ (w.heap.size + 1) 45 #[.int .i64 (0), .int .i64 (0), .int .i64 (0), .int .i64 (0)] (0, 0) _ rfl (put_diag (HQ.out _ HB) _ _ _ _) Tryz.underlying45 rfl (by kernel_rfl)
  · exact ⟨by first | (rw [HR.out]; done) | (rw [HR.out]; rfl), put_below (below_step HW.out HB) (Nat.le_succ _) _ _ _ _⟩

set_option maxRecDepth 100000 in
set_option maxHeartbeats 16000000 in
theorem rheaders_any (p : ProgD) (w : World) (o : ProgOk w p) :
    Calls Tryz.prog 43 #[.agg (progCells p)] w fun e w' => e = .returned (dgV (hdrsM p)) ∧ Below w.heap.size w w' := by
  have HO := Lib.hid o
  have HR := Lib.hid (hdrsM.eq_1 p)
  obtain ⟨W, hW, hw, HB, hp, hQ⟩ := boxD w p
  have HW := Lib.hid hw
  have HQ := Lib.hid hQ
  clear hQ
  by_cases h0 : p.headers.l.length = 0
  · have h0' : ¬ (0 : Int) < (p.headers.l.length : Int) := by omega
    replace HR : Hid (hdrsM p = none) := Lib.hid (by rw [HR.out, h0]; rfl)
    clear o hw h0
    go_enter Tryz.func43, Tryz.ntmps43
    go_upto_region 1 with fail
    rw [← hW]
    clear hW
    have hp3 := hp W HB
    go_wp2
    refine wp_loop_rounds 1 ?_
    rw [rounds_succ]
    go_wp2
    refine bodyPost_ret (v := .agg #[.int .i64 (0), .int .i64 (0), .int .i64 (0), .int .i64 (0)]) ?_ rfl ?_
    · exact results_cell_row (fn := Tryz.f43) (p := 2) (ty := 45) rfl _ _ (w.heap.size + 1) 45 #[.int .i64 (0), .int .i64 (0), .int .i64 (0), .int .i64 (0)] (0, 0) _ rfl (put_diag (HQ.out _ HB) _ _ _ _) Tryz.underlying45 rfl (by kernel_rfl)
    · exact ⟨by first | (rw [HR.out]; done) | (rw [HR.out]; rfl), put_below (below_step HW.out HB) (Nat.le_succ _) _ _ _ _⟩
  have hmx : p.headers.l.length ≤ 9223372036854775807 := o.headers.1
  obtain ⟨g, of, hA, hall⟩ := HeaderD.allA (o.headers.below hw (Nat.le_refl _)) (show 0 < p.headers.l.length by omega)
  have HAL := Lib.hid hall
  have HAA := Lib.hid hA
  simp only [progCells, hA] at hp hW ⊢
  clear o hw hA hall h0
  have HB1 := Lib.hid HB
  have HS := Lib.hid (hdrAtM_at p.headers.l)
  go_enter Tryz.func43, Tryz.ntmps43
  go_upto_region 1 with fail
  rw [← hW]
  clear hW
  go_wp2
  clear HB
  go_loopw [3, 4, 5] (fun iv _ _ wr => ∃ i : Nat, i ≤ p.headers.l.length ∧ iv = .int .i64 i ∧ (∀ j, j < i → hdrAtM p.headers.l j = none) ∧ Below W.heap.size W wr) (fun i _ _ _ => p.headers.l.length - (intOf i).toNat)
  case atStart => exact ⟨0, Nat.zero_le _, rfl, fun j hj => absurd hj (Nat.not_lt_zero _), HB1.out⟩
  case round =>
  obtain ⟨i, hi, rfl, hpre, HB⟩ := hrel
  have HPre := Lib.hid hpre
  have hp3 := hp wr HB
  clear hpre HB1
  by_cases hlt : i < p.headers.l.length
  case neg =>
    have e : i = p.headers.l.length := by omega
    replace HR := Lib.hid (HR.out.trans (show _ = none by rw [firstE_none (by rw [← e]; exact HPre.out)]))
    go_wp2
    refine bodyPost_ret (v := .agg #[.int .i64 (0), .int .i64 (0), .int .i64 (0), .int .i64 (0)]) ?_ rfl ?_
    · exact results_cell_row (fn := Tryz.f43) (p := 2) (ty := 45) rfl _ _ (w.heap.size + 1) 45 #[.int .i64 (0), .int .i64 (0), .int .i64 (0), .int .i64 (0)] (0, 0) _ rfl (put_diag (HQ.out _ HB) _ _ _ _) Tryz.underlying45 rfl (by kernel_rfl)
    · exact ⟨by first | (rw [HR.out]; done) | (rw [HR.out]; rfl), put_below (below_step HW.out HB) (Nat.le_succ _) _ _ _ _⟩
  have HF := Lib.hid (HS.out i hlt)
  have HD := Lib.hid (dup_tells (f := HeaderD.name) hlt)
  have HALi := Lib.hid (fun w' h => HAL.out w' h i hlt)
  have HCk : Hid (∀ u, Below W.heap.size W u → _) := Lib.hid (fun u (hb : Below W.heap.size W u) => rhdr_any p.headers.l[i] u ((HO.out.hdr _ (List.getElem_mem hlt)).below (below_step HW.out hb)))
  generalize p.headers.l[i] = y at *
  obtain ⟨yn, ⟨yl, yA, yc⟩⟩ := y
  simp only at HF HD HALi HCk
  have d := HALi.out wr HB
  go_wp2_with fail
  refine (HCk.out _ (by first | exact HB | exact below_alloc HB _ | exact below_alloc (below_alloc HB _) _ | exact below_alloc (below_alloc (below_alloc HB _) _) _)).mono ?_
  rintro e w1 ⟨rfl, hbN⟩
  replace HB := below_step (by first | exact HB | exact below_alloc HB _ | exact below_alloc (below_alloc HB _) _ | exact below_alloc (below_alloc (below_alloc HB _) _) _) hbN
  clear hbN
  generalize hdrM ⟨yn, ⟨yl, yA, yc⟩⟩ = c at *
  clear d hp3
  have d := HALi.out _ HB
  have hp3 := hp _ HB
  by_cases k1 : c = 0
  case neg =>
    have k1' : (c == 0) = false := beq_eq_false_iff_ne.2 k1
    replace HR := Lib.hid (HR.out.trans (firstE_some hlt HPre.out (HF.out.trans (if_pos k1))))
    clear k1
    have hi0 : (0 : Int) < (i : Int) ∨ ¬ (0 : Int) < (i : Int) := by omega
    rcases hi0 with hi0 | hi0
    all_goals
      go_wp2
      refine wp_loop_rounds 1 ?_
      rw [rounds_succ]
      go_wp2_with fail
      refine (rat_any c 1 i 0 _).mono ?_
      rintro e w2 ⟨rfl, hbN⟩
      replace HB := below_step (by first | exact HB | exact below_alloc HB _ | exact below_alloc (below_alloc HB _) _ | exact below_alloc (below_alloc (below_alloc HB _) _) _) hbN
      clear hbN
      clear hp3
      have hp3 := hp _ HB
      go_wp2
      refine bodyPost_ret (v := .agg #[.int .i64 (c), .int .i64 (1), .int .i64 (i), .int .i64 (0)]) ?_ rfl ?_
      · exact results_cell_row (fn := Tryz.f43) (p := 2) (ty := 45) rfl _ _ (w.heap.size + 1) 45 #[.int .i64 (c), .int .i64 (1), .int .i64 (i), .int .i64 (0)] (0, 0) _ rfl (put_diag (HQ.out _ HB) _ _ _ _) Tryz.underlying45 rfl (by kernel_rfl)
      · exact ⟨by first | (rw [HR.out]; done) | (rw [HR.out]; rfl), put_below (below_step HW.out HB) (Nat.le_succ _) _ _ _ _⟩
  subst k1
  replace HF := Lib.hid (HF.out.trans (if_neg (fun h => h rfl)))
  by_cases km : yn = metaName
  · replace HR := Lib.hid (HR.out.trans (firstE_some hlt HPre.out (HF.out.trans (if_pos km))))
    have km' := meta_true km
    clear km
    have hi0 : (0 : Int) < (i : Int) ∨ ¬ (0 : Int) < (i : Int) := by omega
    rcases hi0 with hi0 | hi0
    all_goals
      go_wp2
      refine wp_loop_rounds 1 ?_
      rw [rounds_succ]
      go_wp2_with fail
      refine (rat_any 6 1 i 0 _).mono ?_
      rintro e w2 ⟨rfl, hbN⟩
      replace HB := below_step (by first | exact HB | exact below_alloc HB _ | exact below_alloc (below_alloc HB _) _ | exact below_alloc (below_alloc (below_alloc HB _) _) _) hbN
      clear hbN
      clear hp3
      have hp3 := hp _ HB
      go_wp2
      refine bodyPost_ret (v := .agg #[.int .i64 (6), .int .i64 (1), .int .i64 (i), .int .i64 (0)]) ?_ rfl ?_
      · exact results_cell_row (fn := Tryz.f43) (p := 2) (ty := 45) rfl _ _ (w.heap.size + 1) 45 #[.int .i64 (6), .int .i64 (1), .int .i64 (i), .int .i64 (0)] (0, 0) _ rfl (put_diag (HQ.out _ HB) _ _ _ _) Tryz.underlying45 rfl (by kernel_rfl)
      · exact ⟨by first | (rw [HR.out]; done) | (rw [HR.out]; rfl), put_below (below_step HW.out HB) (Nat.le_succ _) _ _ _ _⟩
  have km' := meta_false km
  replace HF := Lib.hid (HF.out.trans (if_neg km))
  clear km
  have HB0 := Lib.hid HB
  go_wp2
  clear HB d hp3
  go_loopw [4, 5] (fun ev kv wr => ∃ (k : Nat) (c : Int), k ≤ i ∧ kv = .int .i64 k ∧ ev = .int .i64 c ∧ Hid ((c = 0 ∧ ∀ j (hj : j < p.headers.l.length), j < k → p.headers.l[j].name ≠ yn) ∨ (c = 7 ∧ dupB (p.headers.l.map HeaderD.name) i = true)) ∧ Below W.heap.size W wr) (fun _ k _ => i - (intOf k).toNat)
  case atStart => exact ⟨0, 0, Nat.zero_le _, rfl, rfl, Lib.hid (.inl ⟨rfl, fun j _ hj => absurd hj (Nat.not_lt_zero _)⟩), HB0.out⟩
  case round =>
  clear HB0
  obtain ⟨k, c, hk, rfl, rfl, HC, HB⟩ := hrel
  have d := HALi.out _ HB
  have hp3 := hp _ HB
  rcases HC.out with ⟨rfl, hn⟩ | ⟨rfl, hdup⟩
  · have HN := Lib.hid hn
    clear hn HC
    by_cases hki : k < i
    · have hkl : k < p.headers.l.length := by omega
      have hkl' : (k : Int) < (p.headers.l.length : Int) := by omega
      have hil' : (i : Int) < (p.headers.l.length : Int) := by omega
      have e0 := HAL.out _ HB k hkl
      have HY : Hid (p.headers.l[k].name = yn → dupB (p.headers.l.map HeaderD.name) i = true) := Lib.hid (fun e => HD.out.1 k hkl hki e)
      have HZ : Hid (p.headers.l[k].name ≠ yn → ∀ j (hj : j < p.headers.l.length), j < k + 1 → p.headers.l[j].name ≠ yn) := Lib.hid (fun hne => pre_ne (f := fun _ (a : HeaderD) => a.name ≠ yn) HN.out hne)
      have e1 := e0.1
      clear e0
      generalize p.headers.l[k].name = t at *
      by_cases ht : t = yn
      · have ht' := toList_true ht
        have HY2 := Lib.hid (HY.out ht)
        clear ht HY HZ
        go_wp2
        go_quiet (fail)
        go_wp2
        go_roundw
        case rel => exact ⟨k + 1, 7, by omega, by go_num, rfl, Lib.hid (.inr ⟨rfl, HY2.out⟩), below_drewN HB _⟩
        case measure => simp [intOf]; omega
      · have HZ2 := Lib.hid (HZ.out ht)
        have ht' := toList_false ht
        clear ht HY HZ
        go_wp2
        go_quiet (fail)
        go_wp2
        go_roundw
        case rel => exact ⟨k + 1, 0, by omega, by go_num, rfl, Lib.hid (.inl ⟨rfl, HZ2.out⟩), below_drewN HB _⟩
        case measure => simp [intOf]; omega
    · have e : k = i := by omega
      subst e
      have HP2 := Lib.hid (pre_step HPre.out (HF.out.trans (if_neg (by rw [HD.out.2 HN.out]; simp))))
      go_wp2
      go_roundw
      case rel => exact ⟨k + 1, by omega, by go_num, HP2.out, HB⟩
      case measure => simp [intOf]; omega
  · replace HR := Lib.hid (HR.out.trans (firstE_some hlt HPre.out (HF.out.trans (if_pos hdup))))
    clear HC hdup
    have hi0 : (k : Int) < (i : Int) ∨ ¬ (k : Int) < (i : Int) := by omega
    rcases hi0 with hi0 | hi0
    all_goals
      go_wp2_with fail
      refine (rat_any 7 1 i 0 _).mono ?_
      rintro e w2 ⟨rfl, hbN⟩
      replace HB := below_step (by first | exact HB | exact below_alloc HB _ | exact below_alloc (below_alloc HB _) _ | exact below_alloc (below_alloc (below_alloc HB _) _) _) hbN
      clear hbN
      clear hp3
      have hp3 := hp _ HB
      go_wp2
      refine bodyPost_ret (v := .agg #[.int .i64 (7), .int .i64 (1), .int .i64 (i), .int .i64 (0)]) ?_ rfl ?_
      · exact results_cell_row (fn := Tryz.f43) (p := 2) (ty := 45) rfl _ _ (w.heap.size + 1) 45 #[.int .i64 (7), .int .i64 (1), .int .i64 (i), .int .i64 (0)] (0, 0) _ rfl (put_diag (HQ.out _ HB) _ _ _ _) Tryz.underlying45 rfl (by kernel_rfl)
      · exact ⟨by first | (rw [HR.out]; done) | (rw [HR.out]; rfl), put_below (below_step HW.out HB) (Nat.le_succ _) _ _ _ _⟩

set_option maxRecDepth 100000 in
set_option maxHeartbeats 16000000 in
theorem rregisters_any (p : ProgD) (w : World) (o : ProgOk w p) :
    Calls Tryz.prog 45 #[.agg (progCells p)] w fun e w' => e = .returned (dgV (regsM p)) ∧ Below w.heap.size w w' := by
  have HO := Lib.hid o
  have HR := Lib.hid (regsM.eq_1 p)
  obtain ⟨W, hW, hw, HB, hp, hQ⟩ := boxD w p
  have HW := Lib.hid hw
  have HQ := Lib.hid hQ
  clear hQ
  by_cases h0 : p.registers.l.length = 0
  · have h0' : ¬ (0 : Int) < (p.registers.l.length : Int) := by omega
    replace HR : Hid (regsM p = none) := Lib.hid (by rw [HR.out, h0]; rfl)
    clear o hw h0
    go_enter Tryz.func45, Tryz.ntmps45
    go_upto_region 1 with fail
    rw [← hW]
    clear hW
    have hp3 := hp W HB
    go_wp2
    refine wp_loop_rounds 1 ?_
    rw [rounds_succ]
    go_wp2
    refine bodyPost_ret (v := .agg #[.int .i64 (0), .int .i64 (0), .int .i64 (0), .int .i64 (0)]) ?_ rfl ?_
    · exact results_cell_row (fn := Tryz.f45) (p := 2) (ty := 45) rfl _ _ (w.heap.size + 1) 45 #[.int .i64 (0), .int .i64 (0), .int .i64 (0), .int .i64 (0)] (0, 0) _ rfl (put_diag (HQ.out _ HB) _ _ _ _) Tryz.underlying45 rfl (by kernel_rfl)
    · exact ⟨by first | (rw [HR.out]; done) | (rw [HR.out]; rfl), put_below (below_step HW.out HB) (Nat.le_succ _) _ _ _ _⟩
  have hmx : p.registers.l.length ≤ 9223372036854775807 := o.registers.1
  obtain ⟨g, of, hA, hall⟩ := RegD.allA (o.registers.below hw (Nat.le_refl _)) (show 0 < p.registers.l.length by omega)
  have HAL := Lib.hid hall
  have HAA := Lib.hid hA
  simp only [progCells, hA] at hp hW ⊢
  clear o hw hA hall h0
  have HB1 := Lib.hid HB
  have HS := Lib.hid (regAtM_at p.registers.l)
  go_enter Tryz.func45, Tryz.ntmps45
  go_upto_region 1 with fail
  rw [← hW]
  clear hW
  go_wp2
  clear HB
  go_loopw [3, 4, 5] (fun iv _ _ wr => ∃ i : Nat, i ≤ p.registers.l.length ∧ iv = .int .i64 i ∧ (∀ j, j < i → regAtM p.registers.l j = none) ∧ Below W.heap.size W wr) (fun i _ _ _ => p.registers.l.length - (intOf i).toNat)
  case atStart => exact ⟨0, Nat.zero_le _, rfl, fun j hj => absurd hj (Nat.not_lt_zero _), HB1.out⟩
  case round =>
  obtain ⟨i, hi, rfl, hpre, HB⟩ := hrel
  have HPre := Lib.hid hpre
  have hp3 := hp wr HB
  clear hpre HB1
  by_cases hlt : i < p.registers.l.length
  case neg =>
    have e : i = p.registers.l.length := by omega
    replace HR := Lib.hid (HR.out.trans (show _ = none by rw [firstE_none (by rw [← e]; exact HPre.out)]))
    go_wp2
    refine bodyPost_ret (v := .agg #[.int .i64 (0), .int .i64 (0), .int .i64 (0), .int .i64 (0)]) ?_ rfl ?_
    · exact results_cell_row (fn := Tryz.f45) (p := 2) (ty := 45) rfl _ _ (w.heap.size + 1) 45 #[.int .i64 (0), .int .i64 (0), .int .i64 (0), .int .i64 (0)] (0, 0) _ rfl (put_diag (HQ.out _ HB) _ _ _ _) Tryz.underlying45 rfl (by kernel_rfl)
    · exact ⟨by first | (rw [HR.out]; done) | (rw [HR.out]; rfl), put_below (below_step HW.out HB) (Nat.le_succ _) _ _ _ _⟩
  have HF := Lib.hid (HS.out i hlt)
  have HD := Lib.hid (dup_tells (f := RegD.name) hlt)
  have HALi := Lib.hid (fun w' h => HAL.out w' h i hlt)
  have HCk : Hid (∀ u, Below W.heap.size W u → _) := Lib.hid (fun u (hb : Below W.heap.size W u) => rreg_any p.registers.l[i] (HO.out.rnames _ (List.getElem_mem hlt)) u)
  generalize p.registers.l[i] = y at *
  obtain ⟨yn, yw, ys⟩ := y
  simp only at HF HD HALi HCk
  have d := HALi.out wr HB
  go_wp2_with fail
  refine (HCk.out _ (by first | exact HB | exact below_alloc HB _ | exact below_alloc (below_alloc HB _) _ | exact below_alloc (below_alloc (below_alloc HB _) _) _)).mono ?_
  rintro e w1 ⟨rfl, hbN⟩
  replace HB := below_step (by first | exact HB | exact below_alloc HB _ | exact below_alloc (below_alloc HB _) _ | exact below_alloc (below_alloc (below_alloc HB _) _) _) hbN
  clear hbN
  generalize regM ⟨yn, yw, ys⟩ = c at *
  clear d hp3
  have d := HALi.out _ HB
  have hp3 := hp _ HB
  by_cases k1 : c = 0
  case neg =>
    have k1' : (c == 0) = false := beq_eq_false_iff_ne.2 k1
    replace HR := Lib.hid (HR.out.trans (firstE_some hlt HPre.out (HF.out.trans (if_pos k1))))
    clear k1
    have hi0 : (0 : Int) < (i : Int) ∨ ¬ (0 : Int) < (i : Int) := by omega
    rcases hi0 with hi0 | hi0
    all_goals
      go_wp2
      refine wp_loop_rounds 1 ?_
      rw [rounds_succ]
      go_wp2_with fail
      refine (rat_any c 3 i 0 _).mono ?_
      rintro e w2 ⟨rfl, hbN⟩
      replace HB := below_step (by first | exact HB | exact below_alloc HB _ | exact below_alloc (below_alloc HB _) _ | exact below_alloc (below_alloc (below_alloc HB _) _) _) hbN
      clear hbN
      clear hp3
      have hp3 := hp _ HB
      go_wp2
      refine bodyPost_ret (v := .agg #[.int .i64 (c), .int .i64 (3), .int .i64 (i), .int .i64 (0)]) ?_ rfl ?_
      · exact results_cell_row (fn := Tryz.f45) (p := 2) (ty := 45) rfl _ _ (w.heap.size + 1) 45 #[.int .i64 (c), .int .i64 (3), .int .i64 (i), .int .i64 (0)] (0, 0) _ rfl (put_diag (HQ.out _ HB) _ _ _ _) Tryz.underlying45 rfl (by kernel_rfl)
      · exact ⟨by first | (rw [HR.out]; done) | (rw [HR.out]; rfl), put_below (below_step HW.out HB) (Nat.le_succ _) _ _ _ _⟩
  subst k1
  replace HF := Lib.hid (HF.out.trans (if_neg (fun h => h rfl)))
  have HB0 := Lib.hid HB
  go_wp2
  clear HB d hp3
  go_loopw [4, 5] (fun ev kv wr => ∃ (k : Nat) (c : Int), k ≤ i ∧ kv = .int .i64 k ∧ ev = .int .i64 c ∧ Hid ((c = 0 ∧ ∀ j (hj : j < p.registers.l.length), j < k → p.registers.l[j].name ≠ yn) ∨ (c = 7 ∧ dupB (p.registers.l.map RegD.name) i = true)) ∧ Below W.heap.size W wr) (fun _ k _ => i - (intOf k).toNat)
  case atStart => exact ⟨0, 0, Nat.zero_le _, rfl, rfl, Lib.hid (.inl ⟨rfl, fun j _ hj => absurd hj (Nat.not_lt_zero _)⟩), HB0.out⟩
  case round =>
  clear HB0
  obtain ⟨k, c, hk, rfl, rfl, HC, HB⟩ := hrel
  have d := HALi.out _ HB
  have hp3 := hp _ HB
  rcases HC.out with ⟨rfl, hn⟩ | ⟨rfl, hdup⟩
  · have HN := Lib.hid hn
    clear hn HC
    by_cases hki : k < i
    · have hkl : k < p.registers.l.length := by omega
      have hkl' : (k : Int) < (p.registers.l.length : Int) := by omega
      have hil' : (i : Int) < (p.registers.l.length : Int) := by omega
      have e0 := HAL.out _ HB k hkl
      have HY : Hid (p.registers.l[k].name = yn → dupB (p.registers.l.map RegD.name) i = true) := Lib.hid (fun e => HD.out.1 k hkl hki e)
      have HZ : Hid (p.registers.l[k].name ≠ yn → ∀ j (hj : j < p.registers.l.length), j < k + 1 → p.registers.l[j].name ≠ yn) := Lib.hid (fun hne => pre_ne (f := fun _ (a : RegD) => a.name ≠ yn) HN.out hne)
      have e1 := e0.1
      clear e0
      generalize p.registers.l[k].name = t at *
      by_cases ht : t = yn
      · have ht' := toList_true ht
        have HY2 := Lib.hid (HY.out ht)
        clear ht HY HZ
        go_wp2
        go_quiet (fail)
        go_wp2
        go_roundw
        case rel => exact ⟨k + 1, 7, by omega, by go_num, rfl, Lib.hid (.inr ⟨rfl, HY2.out⟩), below_drewN HB _⟩
        case measure => simp [intOf]; omega
      · have HZ2 := Lib.hid (HZ.out ht)
        have ht' := toList_false ht
        clear ht HY HZ
        go_wp2
        go_quiet (fail)
        go_wp2
        go_roundw
        case rel => exact ⟨k + 1, 0, by omega, by go_num, rfl, Lib.hid (.inl ⟨rfl, HZ2.out⟩), below_drewN HB _⟩
        case measure => simp [intOf]; omega
    · have e : k = i := by omega
      subst e
      have HP2 := Lib.hid (pre_step HPre.out (HF.out.trans (if_neg (by rw [HD.out.2 HN.out]; simp))))
      go_wp2
      go_roundw
      case rel => exact ⟨k + 1, by omega, by go_num, HP2.out, HB⟩
      case measure => simp [intOf]; omega
  · replace HR := Lib.hid (HR.out.trans (firstE_some hlt HPre.out (HF.out.trans (if_pos hdup))))
    clear HC hdup
    have hi0 : (k : Int) < (i : Int) ∨ ¬ (k : Int) < (i : Int) := by omega
    rcases hi0 with hi0 | hi0
    all_goals
      go_wp2_with fail
      refine (rat_any 7 3 i 0 _).mono ?_
      rintro e w2 ⟨rfl, hbN⟩
      replace HB := below_step (by first | exact HB | exact below_alloc HB _ | exact below_alloc (below_alloc HB _) _ | exact below_alloc (below_alloc (below_alloc HB _) _) _) hbN
      clear hbN
      clear hp3
      have hp3 := hp _ HB
      go_wp2
      refine bodyPost_ret (v := .agg #[.int .i64 (7), .int .i64 (3), .int .i64 (i), .int .i64 (0)]) ?_ rfl ?_
      · exact results_cell_row (fn := Tryz.f45) (p := 2) (ty := 45) rfl _ _ (w.heap.size + 1) 45 #[.int .i64 (7), .int .i64 (3), .int .i64 (i), .int .i64 (0)] (0, 0) _ rfl (put_diag (HQ.out _ HB) _ _ _ _) Tryz.underlying45 rfl (by kernel_rfl)
      · exact ⟨by first | (rw [HR.out]; done) | (rw [HR.out]; rfl), put_below (below_step HW.out HB) (Nat.le_succ _) _ _ _ _⟩

set_option maxRecDepth 100000 in
set_option maxHeartbeats 16000000 in
theorem ractions_any (p : ProgD) (w : World) (o : ProgOk w p) :
    Calls Tryz.prog 46 #[.agg (progCells p)] w fun e w' => e = .returned (dgV (actsM p)) ∧ Below w.heap.size w w' := by
  have HO := Lib.hid o
  have HR := Lib.hid (actsM.eq_1 p)
  obtain ⟨W, hW, hw, HB, hp, hQ⟩ := boxD w p
  have HW := Lib.hid hw
  have HQ := Lib.hid hQ
  clear hQ
  by_cases h0 : p.actions.l.length = 0
  · have h0' : ¬ (0 : Int) < (p.actions.l.length : Int) := by omega
    replace HR : Hid (actsM p = none) := Lib.hid (by rw [HR.out, h0]; rfl)
    clear o hw h0
    go_enter Tryz.func46, Tryz.ntmps46
    go_upto_region 1 with fail
    rw [← hW]
    clear hW
    have hp3 := hp W HB
    go_wp2
    refine wp_loop_rounds 1 ?_
    rw [rounds_succ]
    go_wp2
    refine bodyPost_ret (v := .agg #[.int .i64 (0), .int .i64 (0), .int .i64 (0), .int .i64 (0)]) ?_ rfl ?_
    · exact results_cell_row (fn := Tryz.f46) (p := 2) (ty := 45) rfl _ _ (w.heap.size + 1) 45 #[.int .i64 (0), .int .i64 (0), .int .i64 (0), .int .i64 (0)] (0, 0) _ rfl (put_diag (HQ.out _ HB) _ _ _ _) Tryz.underlying45 rfl (by kernel_rfl)
    · exact ⟨by first | (rw [HR.out]; done) | (rw [HR.out]; rfl), put_below (below_step HW.out HB) (Nat.le_succ _) _ _ _ _⟩
  have hmx : p.actions.l.length ≤ 9223372036854775807 := o.actions.1
  obtain ⟨g, of, hA, hall⟩ := ActD.allA (o.actions.below hw (Nat.le_refl _)) (show 0 < p.actions.l.length by omega)
  have HAL := Lib.hid hall
  have HAA := Lib.hid hA
  simp only [progCells, hA] at hp hW ⊢
  clear o hw hA hall h0
  have HB1 := Lib.hid HB
  have HS := Lib.hid (actAtM_at p)
  have HCs := Lib.hid (fun u (hb : Below W.heap.size W u) i hi => ractionCheck_any p i hi u (HO.out.below (below_step HW.out hb)))
  simp only [progCells, HAA.out] at HCs
  go_enter Tryz.func46, Tryz.ntmps46
  go_upto_region 1 with fail
  rw [← hW]
  clear hW
  go_wp2
  clear HB
  go_loopw [3, 4, 5, 6] (fun iv _ _ _ wr => ∃ i : Nat, i ≤ p.actions.l.length ∧ iv = .int .i64 i ∧ (∀ j, j < i → actAtM p j = none) ∧ Below W.heap.size W wr) (fun i _ _ _ _ => p.actions.l.length - (intOf i).toNat)
  case atStart => exact ⟨0, Nat.zero_le _, rfl, fun j hj => absurd hj (Nat.not_lt_zero _), HB1.out⟩
  case round =>
  obtain ⟨i, hi, rfl, hpre, HB⟩ := hrel
  have HPre := Lib.hid hpre
  have hp3 := hp wr HB
  clear hpre HB1
  by_cases hlt : i < p.actions.l.length
  case neg =>
    have e : i = p.actions.l.length := by omega
    replace HR := Lib.hid (HR.out.trans (show _ = none by rw [firstE_none (by rw [← e]; exact HPre.out)]))
    go_wp2
    refine bodyPost_ret (v := .agg #[.int .i64 (0), .int .i64 (0), .int .i64 (0), .int .i64 (0)]) ?_ rfl ?_
    · exact results_cell_row (fn := Tryz.f46) (p := 2) (ty := 45) rfl _ _ (w.heap.size + 1) 45 #[.int .i64 (0), .int .i64 (0), .int .i64 (0), .int .i64 (0)] (0, 0) _ rfl (put_diag (HQ.out _ HB) _ _ _ _) Tryz.underlying45 rfl (by kernel_rfl)
    · exact ⟨by first | (rw [HR.out]; done) | (rw [HR.out]; rfl), put_below (below_step HW.out HB) (Nat.le_succ _) _ _ _ _⟩
  have HF := Lib.hid (HS.out i hlt)
  have HD := Lib.hid (dup_tells (f := ActD.name) hlt)
  have HALi := Lib.hid (fun w' h => HAL.out w' h i hlt)
  have HCk := Lib.hid (fun u hb => HCs.out u hb i hlt)
  clear HCs
  generalize p.actions.l[i] = y at *
  go_wp2_with fail
  refine (HCk.out _ (by first | exact HB | exact below_alloc HB _ | exact below_alloc (below_alloc HB _) _ | exact below_alloc (below_alloc (below_alloc HB _) _) _)).mono ?_
  rintro e w1 ⟨rfl, hbN⟩
  replace HB := below_step (by first | exact HB | exact below_alloc HB _ | exact below_alloc (below_alloc HB _) _ | exact below_alloc (below_alloc (below_alloc HB _) _) _) hbN
  clear hbN
  generalize actM p y = r at *
  obtain ⟨sb, c⟩ := r
  simp only at HF
  clear hp3
  have hp3 := hp _ HB
  by_cases k1 : c = 0
  case neg =>
    have k1' : (c == 0) = false := beq_eq_false_iff_ne.2 k1
    replace HR := Lib.hid (HR.out.trans (firstE_some hlt HPre.out (HF.out.trans (if_pos k1))))
    clear k1
    go_wp2_with fail
    refine (rat_any c 4 i sb _).mono ?_
    rintro e w2 ⟨rfl, hbN⟩
    replace HB := below_step (by first | exact HB | exact below_alloc HB _ | exact below_alloc (below_alloc HB _) _ | exact below_alloc (below_alloc (below_alloc HB _) _) _) hbN
    clear hbN
    clear hp3
    have hp3 := hp _ HB
    go_wp2
    refine bodyPost_ret (v := .agg #[.int .i64 (c), .int .i64 (4), .int .i64 (i), .int .i64 (sb)]) ?_ rfl ?_
    · exact results_cell_row (fn := Tryz.f46) (p := 2) (ty := 45) rfl _ _ (w.heap.size + 1) 45 #[.int .i64 (c), .int .i64 (4), .int .i64 (i), .int .i64 (sb)] (0, 0) _ rfl (put_diag (HQ.out _ HB) _ _ _ _) Tryz.underlying45 rfl (by kernel_rfl)
    · exact ⟨by first | (rw [HR.out]; done) | (rw [HR.out]; rfl), put_below (below_step HW.out HB) (Nat.le_succ _) _ _ _ _⟩
  subst k1
  replace HF := Lib.hid (HF.out.trans (if_neg (fun h => h rfl)))
  have HB0 := Lib.hid HB
  go_wp2
  clear HB hp3
  go_loopw [6] (fun kv wr => ∃ (k : Nat), k ≤ i ∧ kv = .int .i64 k ∧ Hid (∀ j (hj : j < p.actions.l.length), j < k → p.actions.l[j].name ≠ y.name) ∧ Below W.heap.size W wr) (fun k _ => i - (intOf k).toNat)
  case atStart => exact ⟨0, Nat.zero_le _, rfl, Lib.hid (fun j _ hj => absurd hj (Nat.not_lt_zero _)), HB0.out⟩
  case round =>
  clear HB0
  obtain ⟨k, hk, rfl, HN, HB⟩ := hrel
  have d := (HALi.out _ HB).1
  have hp3 := hp _ HB
  by_cases hki : k < i
  · have hkl : k < p.actions.l.length := by omega
    have hkl' : (k : Int) < (p.actions.l.length : Int) := by omega
    have hil' : (i : Int) < (p.actions.l.length : Int) := by omega
    have e1 := (HAL.out _ HB k hkl).1
    have HY : Hid (p.actions.l[k].name = y.name → dupB (p.actions.l.map ActD.name) i = true) := Lib.hid (fun e => HD.out.1 k hkl hki e)
    have HZ : Hid (p.actions.l[k].name ≠ y.name → ∀ j (hj : j < p.actions.l.length), j < k + 1 → p.actions.l[j].name ≠ y.name) := Lib.hid (fun hne => pre_ne (f := fun _ (a : ActD) => a.name ≠ y.name) HN.out hne)
    generalize p.actions.l[k].name = t at *
    by_cases ht : t = y.name
    · have ht' := toList_true ht
      replace HR := Lib.hid (HR.out.trans (firstE_some hlt HPre.out (HF.out.trans (if_pos (HY.out ht)))))
      clear ht HY HZ
      go_wp2
      go_quiet (fail)
      replace HB := below_drewN HB nq
      go_wp2_with fail
      refine (rat_any 7 4 i 0 _).mono ?_
      rintro e w2 ⟨rfl, hbN⟩
      replace HB := below_step (by first | exact HB | exact below_alloc HB _ | exact below_alloc (below_alloc HB _) _ | exact below_alloc (below_alloc (below_alloc HB _) _) _) hbN
      clear hbN
      clear hp3
      have hp3 := hp _ HB
      go_wp2
      refine bodyPost_ret (v := .agg #[.int .i64 (7), .int .i64 (4), .int .i64 (i), .int .i64 (0)]) ?_ rfl ?_
      · exact results_cell_row (fn := Tryz.f46) (p := 2) (ty := 45) rfl _ _ (w.heap.size + 1) 45 #[.int .i64 (7), .int .i64 (4), .int .i64 (i), .int .i64 (0)] (0, 0) _ rfl (put_diag (HQ.out _ HB) _ _ _ _) Tryz.underlying45 rfl (by kernel_rfl)
      · exact ⟨by first | (rw [HR.out]; done) | (rw [HR.out]; rfl), put_below (below_step HW.out HB) (Nat.le_succ _) _ _ _ _⟩
    · have HZ2 := Lib.hid (HZ.out ht)
      have ht' := toList_false ht
      clear ht HY HZ
      go_wp2
      go_quiet (fail)
      go_wp2
      go_roundw
      case rel => exact ⟨k + 1, by omega, by go_num, HZ2, below_drewN HB _⟩
      case measure => simp [intOf]; omega
  · have e : k = i := by omega
    subst e
    have HP2 := Lib.hid (pre_step HPre.out (HF.out.trans (if_neg (by rw [HD.out.2 HN.out]; simp))))
    go_wp2
    go_roundw
    case rel => exact ⟨k + 1, by omega, by go_num, HP2.out, HB⟩
    case measure => simp [intOf]; omega

set_option maxRecDepth 100000 in
set_option maxHeartbeats 16000000 in
theorem rtables_any (p : ProgD) (w : World) (o : ProgOk w p) (hc : ∀ t ∈ p.tables.l, ∀ v ∈ t.args.l, (Lit.int .u32 v).wf = true) :
    Calls Tryz.prog 47 #[.agg (progCells p)] w fun e w' => e = .returned (dgV (tabsM p)) ∧ Below w.heap.size w w' := by
  have HO := Lib.hid o
  have HR := Lib.hid (tabsM.eq_1 p)
  obtain ⟨W, hW, hw, HB, hp, hQ⟩ := boxD w p
  have HW := Lib.hid hw
  have HQ := Lib.hid hQ
  clear hQ
  by_cases h0 : p.tables.l.length = 0
  · have h0' : ¬ (0 : Int) < (p.tables.l.length : Int) := by omega
    replace HR : Hid (tabsM p = none) := Lib.hid (by rw [HR.out, h0]; rfl)
    clear o hw h0
    go_enter Tryz.func47, Tryz.ntmps47
    go_upto_region 1 with fail
    rw [← hW]
    clear hW
    have hp3 := hp W HB
    go_wp2
    refine wp_loop_rounds 1 ?_
    rw [rounds_succ]
    go_wp2
    refine bodyPost_ret (v := .agg #[.int .i64 (0), .int .i64 (0), .int .i64 (0), .int .i64 (0)]) ?_ rfl ?_
    · exact results_cell_row (fn := Tryz.f47) (p := 2) (ty := 45) rfl _ _ (w.heap.size + 1) 45 #[.int .i64 (0), .int .i64 (0), .int .i64 (0), .int .i64 (0)] (0, 0) _ rfl (put_diag (HQ.out _ HB) _ _ _ _) Tryz.underlying45 rfl (by kernel_rfl)
    · exact ⟨by first | (rw [HR.out]; done) | (rw [HR.out]; rfl), put_below (below_step HW.out HB) (Nat.le_succ _) _ _ _ _⟩
  have hmx : p.tables.l.length ≤ 9223372036854775807 := o.tables.1
  obtain ⟨g, of, hA, hall⟩ := TabD.allA (o.tables.below hw (Nat.le_refl _)) (show 0 < p.tables.l.length by omega)
  have HAL := Lib.hid hall
  have HAA := Lib.hid hA
  simp only [progCells, hA] at hp hW ⊢
  clear o hw hA hall h0
  have HB1 := Lib.hid HB
  have HS := Lib.hid (tabAtM_at p)
  have HCs := Lib.hid (fun u (hb : Below W.heap.size W u) i hi => rtableCheck_any p i hi u (HO.out.below (below_step HW.out hb)) hc)
  simp only [progCells, HAA.out] at HCs
  clear hc
  go_enter Tryz.func47, Tryz.ntmps47
  go_upto_region 1 with fail
  rw [← hW]
  clear hW
  go_wp2
  clear HB
  go_loopw [3, 4, 5, 6] (fun iv _ _ _ wr => ∃ i : Nat, i ≤ p.tables.l.length ∧ iv = .int .i64 i ∧ (∀ j, j < i → tabAtM p j = none) ∧ Below W.heap.size W wr) (fun i _ _ _ _ => p.tables.l.length - (intOf i).toNat)
  case atStart => exact ⟨0, Nat.zero_le _, rfl, fun j hj => absurd hj (Nat.not_lt_zero _), HB1.out⟩
  case round =>
  obtain ⟨i, hi, rfl, hpre, HB⟩ := hrel
  have HPre := Lib.hid hpre
  have hp3 := hp wr HB
  clear hpre HB1
  by_cases hlt : i < p.tables.l.length
  case neg =>
    have e : i = p.tables.l.length := by omega
    replace HR := Lib.hid (HR.out.trans (show _ = none by rw [firstE_none (by rw [← e]; exact HPre.out)]))
    go_wp2
    refine bodyPost_ret (v := .agg #[.int .i64 (0), .int .i64 (0), .int .i64 (0), .int .i64 (0)]) ?_ rfl ?_
    · exact results_cell_row (fn := Tryz.f47) (p := 2) (ty := 45) rfl _ _ (w.heap.size + 1) 45 #[.int .i64 (0), .int .i64 (0), .int .i64 (0), .int .i64 (0)] (0, 0) _ rfl (put_diag (HQ.out _ HB) _ _ _ _) Tryz.underlying45 rfl (by kernel_rfl)
    · exact ⟨by first | (rw [HR.out]; done) | (rw [HR.out]; rfl), put_below (below_step HW.out HB) (Nat.le_succ _) _ _ _ _⟩
  have HF := Lib.hid (HS.out i hlt)
  have HD := Lib.hid (dup_tells (f := TabD.name) hlt)
  have HALi := Lib.hid (fun w' h => HAL.out w' h i hlt)
  have HCk := Lib.hid (fun u hb => HCs.out u hb i hlt)
  clear HCs
  generalize p.tables.l[i] = y at *
  go_wp2_with fail
  refine (HCk.out _ (by first | exact HB | exact below_alloc HB _ | exact below_alloc (below_alloc HB _) _ | exact below_alloc (below_alloc (below_alloc HB _) _) _)).mono ?_
  rintro e w1 ⟨rfl, hbN⟩
  replace HB := below_step (by first | exact HB | exact below_alloc HB _ | exact below_alloc (below_alloc HB _) _ | exact below_alloc (below_alloc (below_alloc HB _) _) _) hbN
  clear hbN
  generalize tabM p y = r at *
  obtain ⟨sb, c⟩ := r
  simp only at HF
  clear hp3
  have hp3 := hp _ HB
  by_cases k1 : c = 0
  case neg =>
    have k1' : (c == 0) = false := beq_eq_false_iff_ne.2 k1
    replace HR := Lib.hid (HR.out.trans (firstE_some hlt HPre.out (HF.out.trans (if_pos k1))))
    clear k1
    go_wp2_with fail
    refine (rat_any c 5 i sb _).mono ?_
    rintro e w2 ⟨rfl, hbN⟩
    replace HB := below_step (by first | exact HB | exact below_alloc HB _ | exact below_alloc (below_alloc HB _) _ | exact below_alloc (below_alloc (below_alloc HB _) _) _) hbN
    clear hbN
    clear hp3
    have hp3 := hp _ HB
    go_wp2
    refine bodyPost_ret (v := .agg #[.int .i64 (c), .int .i64 (5), .int .i64 (i), .int .i64 (sb)]) ?_ rfl ?_
    · exact results_cell_row (fn := Tryz.f47) (p := 2) (ty := 45) rfl _ _ (w.heap.size + 1) 45 #[.int .i64 (c), .int .i64 (5), .int .i64 (i), .int .i64 (sb)] (0, 0) _ rfl (put_diag (HQ.out _ HB) _ _ _ _) Tryz.underlying45 rfl (by kernel_rfl)
    · exact ⟨by first | (rw [HR.out]; done) | (rw [HR.out]; rfl), put_below (below_step HW.out HB) (Nat.le_succ _) _ _ _ _⟩
  subst k1
  replace HF := Lib.hid (HF.out.trans (if_neg (fun h => h rfl)))
  have HB0 := Lib.hid HB
  go_wp2
  clear HB hp3
  go_loopw [6] (fun kv wr => ∃ (k : Nat), k ≤ i ∧ kv = .int .i64 k ∧ Hid (∀ j (hj : j < p.tables.l.length), j < k → p.tables.l[j].name ≠ y.name) ∧ Below W.heap.size W wr) (fun k _ => i - (intOf k).toNat)
  case atStart => exact ⟨0, Nat.zero_le _, rfl, Lib.hid (fun j _ hj => absurd hj (Nat.not_lt_zero _)), HB0.out⟩
  case round =>
  clear HB0
  obtain ⟨k, hk, rfl, HN, HB⟩ := hrel
  have d := (HALi.out _ HB).1
  have hp3 := hp _ HB
  by_cases hki : k < i
  · have hkl : k < p.tables.l.length := by omega
    have hkl' : (k : Int) < (p.tables.l.length : Int) := by omega
    have hil' : (i : Int) < (p.tables.l.length : Int) := by omega
    have e1 := (HAL.out _ HB k hkl).1
    have HY : Hid (p.tables.l[k].name = y.name → dupB (p.tables.l.map TabD.name) i = true) := Lib.hid (fun e => HD.out.1 k hkl hki e)
    have HZ : Hid (p.tables.l[k].name ≠ y.name → ∀ j (hj : j < p.tables.l.length), j < k + 1 → p.tables.l[j].name ≠ y.name) := Lib.hid (fun hne => pre_ne (f := fun _ (a : TabD) => a.name ≠ y.name) HN.out hne)
    generalize p.tables.l[k].name = t at *
    by_cases ht : t = y.name
    · have ht' := toList_true ht
      replace HR := Lib.hid (HR.out.trans (firstE_some hlt HPre.out (HF.out.trans (if_pos (HY.out ht)))))
      clear ht HY HZ
      go_wp2
      go_quiet (fail)
      replace HB := below_drewN HB nq
      go_wp2_with fail
      refine (rat_any 7 5 i 0 _).mono ?_
      rintro e w2 ⟨rfl, hbN⟩
      replace HB := below_step (by first | exact HB | exact below_alloc HB _ | exact below_alloc (below_alloc HB _) _ | exact below_alloc (below_alloc (below_alloc HB _) _) _) hbN
      clear hbN
      clear hp3
      have hp3 := hp _ HB
      go_wp2
      refine bodyPost_ret (v := .agg #[.int .i64 (7), .int .i64 (5), .int .i64 (i), .int .i64 (0)]) ?_ rfl ?_
      · exact results_cell_row (fn := Tryz.f47) (p := 2) (ty := 45) rfl _ _ (w.heap.size + 1) 45 #[.int .i64 (7), .int .i64 (5), .int .i64 (i), .int .i64 (0)] (0, 0) _ rfl (put_diag (HQ.out _ HB) _ _ _ _) Tryz.underlying45 rfl (by kernel_rfl)
      · exact ⟨by first | (rw [HR.out]; done) | (rw [HR.out]; rfl), put_below (below_step HW.out HB) (Nat.le_succ _) _ _ _ _⟩
    · have HZ2 := Lib.hid (HZ.out ht)
      have ht' := toList_false ht
      clear ht HY HZ
      go_wp2
      go_quiet (fail)
      go_wp2
      go_roundw
      case rel => exact ⟨k + 1, by omega, by go_num, HZ2, below_drewN HB _⟩
      case measure => simp [intOf]; omega
  · have e : k = i := by omega
    subst e
    have HP2 := Lib.hid (pre_step HPre.out (HF.out.trans (if_neg (by rw [HD.out.2 HN.out]; simp))))
    go_wp2
    go_roundw
    case rel => exact ⟨k + 1, by omega, by go_num, HP2.out, HB⟩
    case measure => simp [intOf]; omega
end Go.Proofs.YtgfbikknkcaneaaGreat
