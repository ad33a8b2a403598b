/- The walks of the reference's check of control nodes. No condition but that the program lies in memory, at most 90000 nodes. -/
import Derived.Test.YtbfjknidinkafaaGreatRcM
namespace Go.Proofs.YtbfjknidinkafaaGreat
open Go.RowKit

theorem rapplies_any (x : CtlD) (w : World) : Calls Tryz.prog 209 #[.agg (ctlCells x)] w fun e w' => e = .returned (.bool (appliesM x)) ∧ Below w.heap.size w w' := by
  have HR := Lib.hid (appliesM.eq_1 x)
  by_cases h1 : x.kind = 1
  · have HR2 : Hid (appliesM x = true) := Lib.hid (by rw [HR.out, h1]; rfl)
    have h1' : (x.kind == 1) = true := beq_iff_eq.2 h1
    clear h1
    go_enter Tryz.func209, Tryz.ntmps209
    go_wp2
    go_ret
    exact ⟨by rw [HR2.out]; rfl, below1 _ _⟩
  · have h1' : (x.kind == 1) = false := beq_eq_false_iff_ne.2 h1
    by_cases h2 : x.kind = 3
    · have HR2 : Hid (appliesM x = true) := Lib.hid (by rw [HR.out, h2]; rfl)
      have h2' : (x.kind == 3) = true := beq_iff_eq.2 h2
      clear h1 h2
      go_enter Tryz.func209, Tryz.ntmps209
      go_wp2
      go_ret
      exact ⟨by rw [HR2.out]; rfl, below1 _ _⟩
    · have HR2 : Hid (appliesM x = false) := Lib.hid (by rw [HR.out]; simp [h1, h2])
      have h2' : (x.kind == 3) = false := beq_eq_false_iff_ne.2 h2
      clear h1 h2
      go_enter Tryz.func209, Tryz.ntmps209
      go_wp2
      go_ret
      exact ⟨by rw [HR2.out]; rfl, below1 _ _⟩
/-- node j applies table t -/
def hitsM (t : Int) (x : CtlD) : Bool := appliesM x && decide (x.table = t)
theorem used_hits {l : List CtlD} {k : Nat} {t : Int} (hk : k ≤ l.length) : t ∈ usedM (l.take k) ↔ ∃ j, ∃ h : j < l.length, j < k ∧ hitsM t l[j] = true := by
  rw [usedM, List.mem_map]
  constructor
  · rintro ⟨y, hy, e⟩
    obtain ⟨h1, h2⟩ := List.mem_filter.1 hy
    obtain ⟨j, hj, e2⟩ := List.mem_take_iff_getElem.1 h1
    refine ⟨j, by omega, by omega, ?_⟩
    rw [hitsM, e2, h2, e]; simp
  · rintro ⟨j, hj, hjk, h⟩
    rw [hitsM, Bool.and_eq_true, decide_eq_true_eq] at h
    exact ⟨l[j], List.mem_filter.2 ⟨List.mem_take_iff_getElem.2 ⟨j, by omega, rfl⟩, h.1⟩, h.2⟩
/-- a node before i applies table t -/
def appM (l : List CtlD) (i : Nat) (t : Int) : Bool := decide (t ∈ usedM (l.take i))
theorem appM_iff (l : List CtlD) (i : Nat) (t : Int) : appM l i t = true ↔ t ∈ usedM (l.take i) := by rw [appM, decide_eq_true_eq]
set_option linter.unusedSimpArgs false in
set_option maxRecDepth 100000 in
set_option maxHeartbeats 8000000 in
theorem rapplied_any (x : L CtlD) (at_ : Nat) (w : World) (h : LOk w 5 CtlD.cells x) (ha : at_ < x.l.length) :
    Calls Tryz.prog 191 #[.slice x.A x.l.length x.c, .int .i64 at_] w fun e w' => e = .returned (.bool (appM x.l at_ x.l[at_].table)) ∧ Below w.heap.size w w' := by
  obtain ⟨l, A0, c0⟩ := x
  have HX := Lib.hid h
  have hmx : l.length ≤ 9223372036854775807 := h.1
  clear h
  simp only at ha hmx ⊢
  have HU := Lib.hid ((appM_iff l at_ l[at_].table).trans (used_hits (l := l) (k := at_) (t := l[at_].table) (by omega)))
  obtain ⟨g, of, hA, hall⟩ := CtlD.allA HX.out (show 0 < l.length by omega)
  simp only at hA hall
  subst hA
  have HAL := Lib.hid hall
  have HAt := Lib.hid (fun w' h => (hall w' h at_ ha).2.1)
  clear hall
  generalize l[at_].table = t at *
  go_enter Tryz.func191, Tryz.ntmps191
  go_wp2
  go_loopw [5] (fun iv wr => ∃ k : Nat, k ≤ at_ ∧ iv = .int .i64 k ∧ Hid (∀ j (hj : j < l.length), j < k → hitsM t l[j] = false) ∧ Below w.heap.size w wr) (fun i _ => at_ - (intOf i).toNat)
  case atStart => exact ⟨0, Nat.zero_le _, rfl, Lib.hid (fun j _ hj => absurd hj (Nat.not_lt_zero _)), Below.refl _ _⟩
  case round =>
  obtain ⟨k, hk, rfl, HK, HB⟩ := hrel
  by_cases hlt : k < at_
  · have hkl : k < l.length := by omega
    have hq1 := fun w' (h : Below wr.heap.size wr w') => HAL.out w' (below_step HB h) k hkl
    have hq2 := fun w' (h : Below wr.heap.size wr w') => HAt.out w' (below_step HB h)
    have HYes : Hid (hitsM t l[k] = true → appM l at_ t = true) := Lib.hid (fun e => HU.out.2 ⟨k, hkl, hlt, e⟩)
    have HNo : Hid (hitsM t l[k] = false → ∀ j (hj : j < l.length), j < k + 1 → hitsM t l[j] = false) := Lib.hid (fun e j hj hjk => by
      rcases Nat.lt_succ_iff_lt_or_eq.1 hjk with h1 | rfl
      · exact HK.out j hj h1
      · exact e)
    have hn1 : (k : Int) < (l.length : Int) := by omega
    have hn2 : (at_ : Int) < (l.length : Int) := by omega
    have HAp : Hid (∀ u, Calls Tryz.prog 209 #[.agg (ctlCells l[k])] u fun e w' => e = .returned (.bool (appliesM l[k])) ∧ Below u.heap.size u w') := Lib.hid (fun u => rapplies_any l[k] u)
    generalize l[k] = y at *
    have HVV := Lib.hid HB
    have H0 := Lib.hid (Below.refl wr.heap.size wr)
    clear HB
    have HHt := Lib.hid (hitsM.eq_1 t y)
    cases hap : appliesM y
    · have HZ := Lib.hid (HNo.out (by rw [HHt.out, hap]; rfl))
      rw [hap] at HAp
      clear HYes HNo
      have hq3 := hq1 wr H0.out
      go_wp2
      refine wp_region_held_drew (S := fun w' => Below wr.heap.size wr w') (by kernel_rfl) (below_drew H0.out) (fun hHeld => ?_)
      refine wpAnyH_take (i := 0) (oi := { dst := some 11, op := .move (.tmp 0), type := 28, pos := "ref.go:65", after := #[], guard := none }) (v := ?v0) rfl (by kernel_rfl) (by kernel_rfl) (by kernel_rfl) (fun _ _ _ h => h) (Or.inl ⟨by rfl, ?y0⟩) (by assumption) ?r0
      case y0 => (intro w hSw; (try dsimp only at hSw); go_simp; try (with_reducible rfl))
      try simp only [Act.put, List.setIfInBounds_toArray, List.set_cons_zero, List.set_cons_succ]
      refine wpAnyH_take (i := 1) (oi := { dst := some 12, op := .move (.tmp 5), type := 3, pos := "ref.go:65", after := #[], guard := none }) (v := ?v1) rfl (by kernel_rfl) (by kernel_rfl) (by kernel_rfl) (fun _ _ _ h => h) (Or.inl ⟨by rfl, ?y1⟩) (by assumption) ?r1
      case y1 => (intro w hSw; (try dsimp only at hSw); go_simp; try (with_reducible rfl))
      try simp only [Act.put, List.setIfInBounds_toArray, List.set_cons_zero, List.set_cons_succ]
      refine wpAnyH_take (i := 2) (oi := { dst := some 13, op := .indexAddr 28 (.tmp 11) (.tmp 12), type := 0, pos := "ref.go:65", after := #[{ on := 0, ground := .data }, { on := 1, ground := .data }], guard := none }) (v := ?v2) rfl (by kernel_rfl) (by kernel_rfl) (by kernel_rfl) (fun _ _ _ h => h) (Or.inl ⟨by rfl, ?y2⟩) (by assumption) ?r2
      case y2 => (intro w hSw; (try dsimp only at hSw); go_simp; try (with_reducible rfl))
      try simp only [Act.put, List.setIfInBounds_toArray, List.set_cons_zero, List.set_cons_succ]
      refine wpAnyH_take (i := 3) (oi := { dst := some 14, op := .load 169 (.tmp 13), type := 169, pos := "ref.go:65", after := #[{ on := 2, ground := .data }], guard := none }) (v := ?v3) rfl (by kernel_rfl) (by kernel_rfl) (by kernel_rfl) (fun _ _ _ h => h) (Or.inl ⟨by rfl, ?y3⟩) (by assumption) ?r3
      case y3 => (intro w hSw; (try dsimp only at hSw); go_simp; try (with_reducible rfl))
      try simp only [Act.put, List.setIfInBounds_toArray, List.set_cons_zero, List.set_cons_succ]
      refine wpAnyH_ready (rs := [4]) (by kernel_rfl) (by simp) ?_
      refine AllReadyH.cons (o := { dst := some 15, op := .call { callee := .value (.func 209), args := #[.tmp 14], argTypes := #[169] }, type := 4, pos := "ref.go:65", after := #[{ on := 3, ground := .data }], guard := none }) rfl (fun K hK => ?_) AllReadyH.nil
      go_simp
      go_at_call 209
      refine (HAp.out _).mono ?_
      rintro e w1 ⟨rfl, hb1⟩
      refine hK.out _ _ (below_step hHeld hb1) (fun hHeld2 => ?_)
      clear hK K
      try simp only [Act.put, List.setIfInBounds_toArray, List.set_cons_zero, List.set_cons_succ]
      refine wpAnyH_take (i := 5) (oi := { dst := some 16, op := .move (.tmp 15), type := 4, pos := "ref.go:65", after := #[{ on := 4, ground := .data }, { on := 4, ground := .chain }], guard := none }) (v := ?v5) rfl (by kernel_rfl) (by kernel_rfl) (by kernel_rfl) (fun _ _ _ h => h) (Or.inl ⟨by rfl, ?y5⟩) (by assumption) ?r5
      case y5 => (intro w hSw; (try dsimp only at hSw); go_simp; try (with_reducible rfl))
      try simp only [Act.put, List.setIfInBounds_toArray, List.set_cons_zero, List.set_cons_succ]
      refine wpAnyH_take (i := 6) (oi := { dst := some 17, op := .move (.tmp 0), type := 28, pos := "ref.go:65", after := #[{ on := 5, ground := .guard }], guard := some (5, true) }) (v := undef) rfl (by kernel_rfl) (by kernel_rfl) (by kernel_rfl) (fun _ _ _ h => h) (Or.inr ⟨by rfl, rfl⟩) (by assumption) ?_
      try simp only [Act.put, List.setIfInBounds_toArray, List.set_cons_zero, List.set_cons_succ]
      refine wpAnyH_take (i := 7) (oi := { dst := some 18, op := .move (.tmp 5), type := 3, pos := "ref.go:65", after := #[{ on := 5, ground := .guard }], guard := some (5, true) }) (v := undef) rfl (by kernel_rfl) (by kernel_rfl) (by kernel_rfl) (fun _ _ _ h => h) (Or.inr ⟨by rfl, rfl⟩) (by assumption) ?_
      try simp only [Act.put, List.setIfInBounds_toArray, List.set_cons_zero, List.set_cons_succ]
      refine wpAnyH_take (i := 8) (oi := { dst := some 19, op := .indexAddr 28 (.tmp 17) (.tmp 18), type := 0, pos := "ref.go:65", after := #[{ on := 6, ground := .data }, { on := 7, ground := .data }, { on := 5, ground := .guard }], guard := some (5, true) }) (v := undef) rfl (by kernel_rfl) (by kernel_rfl) (by kernel_rfl) (fun _ _ _ h => h) (Or.inr ⟨by rfl, rfl⟩) (by assumption) ?_
      try simp only [Act.put, List.setIfInBounds_toArray, List.set_cons_zero, List.set_cons_succ]
      refine wpAnyH_take (i := 9) (oi := { dst := some 20, op := .fieldAddr 169 (.tmp 19) 1, type := 0, pos := "ref.go:65", after := #[{ on := 8, ground := .data }, { on := 5, ground := .guard }], guard := some (5, true) }) (v := undef) rfl (by kernel_rfl) (by kernel_rfl) (by kernel_rfl) (fun _ _ _ h => h) (Or.inr ⟨by rfl, rfl⟩) (by assumption) ?_
      try simp only [Act.put, List.setIfInBounds_toArray, List.set_cons_zero, List.set_cons_succ]
      refine wpAnyH_take (i := 10) (oi := { dst := some 21, op := .load 3 (.tmp 20), type := 3, pos := "ref.go:65", after := #[{ on := 9, ground := .data }, { on := 5, ground := .guard }], guard := some (5, true) }) (v := undef) rfl (by kernel_rfl) (by kernel_rfl) (by kernel_rfl) (fun _ _ _ h => h) (Or.inr ⟨by rfl, rfl⟩) (by assumption) ?_
      try simp only [Act.put, List.setIfInBounds_toArray, List.set_cons_zero, List.set_cons_succ]
      refine wpAnyH_take (i := 11) (oi := { dst := some 22, op := .move (.tmp 0), type := 28, pos := "ref.go:65", after := #[{ on := 5, ground := .guard }], guard := some (5, true) }) (v := undef) rfl (by kernel_rfl) (by kernel_rfl) (by kernel_rfl) (fun _ _ _ h => h) (Or.inr ⟨by rfl, rfl⟩) (by assumption) ?_
      try simp only [Act.put, List.setIfInBounds_toArray, List.set_cons_zero, List.set_cons_succ]
      refine wpAnyH_take (i := 12) (oi := { dst := some 23, op := .move (.tmp 1), type := 3, pos := "ref.go:65", after := #[{ on := 5, ground := .guard }], guard := some (5, true) }) (v := undef) rfl (by kernel_rfl) (by kernel_rfl) (by kernel_rfl) (fun _ _ _ h => h) (Or.inr ⟨by rfl, rfl⟩) (by assumption) ?_
      try simp only [Act.put, List.setIfInBounds_toArray, List.set_cons_zero, List.set_cons_succ]
      refine wpAnyH_take (i := 13) (oi := { dst := some 24, op := .indexAddr 28 (.tmp 22) (.tmp 23), type := 0, pos := "ref.go:65", after := #[{ on := 11, ground := .data }, { on := 12, ground := .data }, { on := 5, ground := .guard }], guard := some (5, true) }) (v := undef) rfl (by kernel_rfl) (by kernel_rfl) (by kernel_rfl) (fun _ _ _ h => h) (Or.inr ⟨by rfl, rfl⟩) (by assumption) ?_
      try simp only [Act.put, List.setIfInBounds_toArray, List.set_cons_zero, List.set_cons_succ]
      refine wpAnyH_take (i := 14) (oi := { dst := some 25, op := .fieldAddr 169 (.tmp 24) 1, type := 0, pos := "ref.go:65", after := #[{ on := 13, ground := .data }, { on := 5, ground := .guard }], guard := some (5, true) }) (v := undef) rfl (by kernel_rfl) (by kernel_rfl) (by kernel_rfl) (fun _ _ _ h => h) (Or.inr ⟨by rfl, rfl⟩) (by assumption) ?_
      try simp only [Act.put, List.setIfInBounds_toArray, List.set_cons_zero, List.set_cons_succ]
      refine wpAnyH_take (i := 15) (oi := { dst := some 26, op := .load 3 (.tmp 25), type := 3, pos := "ref.go:65", after := #[{ on := 14, ground := .data }, { on := 5, ground := .guard }], guard := some (5, true) }) (v := undef) rfl (by kernel_rfl) (by kernel_rfl) (by kernel_rfl) (fun _ _ _ h => h) (Or.inr ⟨by rfl, rfl⟩) (by assumption) ?_
      try simp only [Act.put, List.setIfInBounds_toArray, List.set_cons_zero, List.set_cons_succ]
      refine wpAnyH_take (i := 16) (oi := { dst := some 27, op := .binOp .eql 3 (.tmp 21) (.tmp 26) 3, type := 4, pos := "ref.go:65", after := #[{ on := 10, ground := .data }, { on := 15, ground := .data }, { on := 5, ground := .guard }], guard := some (5, true) }) (v := undef) rfl (by kernel_rfl) (by kernel_rfl) (by kernel_rfl) (fun _ _ _ h => h) (Or.inr ⟨by rfl, rfl⟩) (by assumption) ?_
      try simp only [Act.put, List.setIfInBounds_toArray, List.set_cons_zero, List.set_cons_succ]
      refine wpAnyH_take (i := 17) (oi := { dst := some 28, op := .pick (.tmp 16) (.tmp 27) (.const (Value.bool false)), type := 4, pos := "ref.go:65", after := #[{ on := 5, ground := .data }, { on := 16, ground := .data }], guard := none }) (v := ?v17) rfl (by kernel_rfl) (by kernel_rfl) (by kernel_rfl) (fun _ _ _ h => h) (Or.inl ⟨by rfl, ?y17⟩) (by assumption) ?r17
      case y17 => (intro w hSw; (try dsimp only at hSw); go_simp; try (with_reducible rfl))
      try simp only [Act.put, List.setIfInBounds_toArray, List.set_cons_zero, List.set_cons_succ]
      refine wpAnyH_done (by kernel_rfl) ?_ _
      have HB5 : Hid (Below wr.heap.size wr _) := Lib.hid hHeld2
      go_wp2
      go_roundw
      case rel => exact ⟨k + 1, by omega, by go_num, HZ, below_step HVV.out HB5.out⟩
      case measure => simp [intOf]; omega
    · rw [hap] at HAp
      by_cases ht : y.table = t
      · have HZ := Lib.hid (HYes.out (by rw [HHt.out, hap, decide_eq_true ht]; rfl))
        have ht' : (y.table == t) = true := beq_iff_eq.2 ht
        clear HYes HNo ht
        go_wp2
        go_region_held3 (fun w' => Below wr.heap.size wr w') (first | exact H0.out | exact below_drew H0.out | (exact below_step (by assumption) (by assumption)) | assumption)
          (first | (go_at_call 209; refine (HAp.out _).mono ?_; rintro e w1 ⟨rfl, hb1⟩))
        have HB5 : Hid (Below wr.heap.size wr _) := Lib.hid (by assumption)
        go_wp2
        go_ret
        exact ⟨by rw [HZ.out]; rfl, below_step HVV.out HB5.out⟩
      · have HZ := Lib.hid (HNo.out (by rw [HHt.out, hap, decide_eq_false ht]; rfl))
        have ht' : (y.table == t) = false := beq_eq_false_iff_ne.2 ht
        clear HYes HNo ht
        go_wp2
        go_region_held3 (fun w' => Below wr.heap.size wr w') (first | exact H0.out | exact below_drew H0.out | (exact below_step (by assumption) (by assumption)) | assumption)
          (first | (go_at_call 209; refine (HAp.out _).mono ?_; rintro e w1 ⟨rfl, hb1⟩))
        have HB5 : Hid (Below wr.heap.size wr _) := Lib.hid (by assumption)
        go_wp2
        go_roundw
        case rel => exact ⟨k + 1, by omega, by go_num, HZ, below_step HVV.out HB5.out⟩
        case measure => simp [intOf]; omega
  · have e : k = at_ := by omega
    have HZ : Hid (appM l at_ t = false) := Lib.hid (by
      rw [← Bool.not_eq_true, HU.out]
      rintro ⟨j, hj, hjk, h⟩
      rw [HK.out j hj (by omega)] at h
      cases h)
    go_wp2
    go_ret
    exact ⟨by rw [HZ.out]; rfl, HB⟩

theorem rexprCheck_nil (p : ProgD) (x : L NodeD) (w : World) (o : ProgOk w p) (hx : LOk w 3 NodeD.cells x) :
    Calls Tryz.prog 185 #[.slice x.A x.l.length x.c, .agg (scopeCells p ⟨[], none, 0⟩)] w fun e w' => e = .returned (.tuple #[.int .i64 (exprM p [] x.l).1, .int .i64 (exprM p [] x.l).2]) ∧ Below w.heap.size w w' :=
  rexprCheck_any p ⟨[], none, 0⟩ x w o ⟨Nat.zero_le _, .inl rfl⟩ hx
set_option maxRecDepth 100000 in
set_option maxHeartbeats 16000000 in
theorem rcheckNode_any (p : ProgD) (x : L CtlD) (i : Nat) (w : World) (o : ProgOk w p) (h : LOk w 5 CtlD.cells x) (hi : i < x.l.length) (hx : LOk w 3 NodeD.cells x.l[i].cond) (hle : x.l[i].th.l.length + x.l[i].el.l.length ≤ 90000) :
    Calls Tryz.prog 153 #[.agg (progCells p), .slice x.A x.l.length x.c, .int .i64 i] w fun e w' => e = .returned (.int .i64 (nodeM p (usedM (x.l.take i)) x.l[i])) ∧ Below w.heap.size w w' := by
  obtain ⟨l, A0, c0⟩ := x
  simp only at hi hx hle ⊢
  have HO := Lib.hid o
  obtain ⟨W, hW, hw, HB, hp⟩ := box1 w (progCells p) 31
  have HW := Lib.hid hw
  have HX := Lib.hid (h.below hw (Nat.le_refl _))
  have HCd := Lib.hid (hx.below hw (Nat.le_refl _))
  have HAp := Lib.hid (fun u (hb : Below W.heap.size W u) => rapplied_any ⟨l, A0, c0⟩ i u (HX.out.below hb (Nat.le_refl _)) hi)
  obtain ⟨g, of, hA, hq⟩ := CtlD.atA HX.out hi
  have hn1 : (i : Int) < (l.length : Int) := by omega
  have HR := Lib.hid (nodeM_eq p (usedM (l.take i)) l[i])
  have HMm := Lib.hid (appM_iff l i l[i].table)
  clear o h hx hw
  simp only at hA HAp
  subst hA
  generalize usedM (l.take i) = us at *
  generalize l[i] = y at *
  obtain ⟨kd, tb, cd, tl, el, tA, eA, tc, ec⟩ := y
  simp only [CtlD.kind, CtlD.table, CtlD.cond, CtlD.th, CtlD.el] at hq HR HCd hle HAp HMm
  generalize appM l i tb = am at *
  go_enter Tryz.func153, Tryz.ntmps153
  go_upto_region 1 with fail
  rw [← hW]
  clear hW
  refine Exists.elim (box1 W #[.int .i64 kd, .int .i64 tb, .slice cd.A cd.l.length cd.c, .slice tA tl.length tc, .slice eA el.length ec] 169) ?_
  rintro U ⟨hU, hu, hUU, hc⟩
  go_upto_region 2 with fail
  rw [← hU]
  clear hU
  have HU := Lib.hid hu
  have hp2 := fun w' h => hp w' (below_step hu h)
  have hc3 := hc U hUU
  replace HB := hUU
  clear hp hUU hu hq
  by_cases k13 : kd = 1 ∨ kd = 3
  · replace HR := Lib.hid (HR.out.trans (if_pos k13))
    have k2 : (kd == 2) = false := beq_eq_false_iff_ne.2 (by omega)
    have kk1 : ¬ kd < 1 := by omega
    have kk2 : ¬ 3 < kd := by omega
    have hcase : tb < 0 ∨ (0 ≤ tb ∧ (p.tables.l.length : Int) ≤ tb) ∨ (0 ≤ tb ∧ tb < (p.tables.l.length : Int)) := by omega
    have hp3 := hp2 U HB
    rcases hcase with h1 | ⟨h1, h2⟩ | ⟨h1, h2⟩
    · replace HR := Lib.hid (HR.out.trans (if_pos (Or.inl h1)))
      go_wp2
      go_ret
      exact ⟨by rw [HR.out]; rfl, below_step HW.out (below_step HU.out HB)⟩
    · replace HR := Lib.hid (HR.out.trans (if_pos (Or.inr h2)))
      go_wp2
      go_ret
      exact ⟨by rw [HR.out]; rfl, below_step HW.out (below_step HU.out HB)⟩
    replace HR := Lib.hid (HR.out.trans (if_neg (show ¬ (tb < 0 ∨ (p.tables.l.length : Int) ≤ tb) by omega)))
    go_wp2_with fail
    refine (HAp.out _ (below_step HU.out (by first | exact HB | exact below_alloc HB _ | exact below_alloc (below_alloc HB _) _ | exact below_alloc (below_alloc (below_alloc HB _) _) _))).mono ?_
    rintro e w1 ⟨rfl, hbN⟩
    replace HB := below_step (by first | exact HB | exact below_alloc HB _ | exact below_alloc (below_alloc HB _) _ | exact below_alloc (below_alloc (below_alloc HB _) _) _) hbN
    clear hbN
    clear hc3 hp3
    have hc3 := hc _ HB
    cases am
    case true =>
      replace HR := Lib.hid (HR.out.trans (if_pos (HMm.out.1 rfl)))
      go_wp2
      go_ret
      exact ⟨by rw [HR.out]; rfl, below_step HW.out (below_step HU.out HB)⟩
    replace HR := Lib.hid (HR.out.trans (if_neg (fun h => by have := HMm.out.2 h; cases this)))
    rcases k13 with rfl | rfl
    · have hsum : ¬ ((0 : Int) < (tl.length : Int) + (el.length : Int)) ∨ (0 : Int) < (tl.length : Int) + (el.length : Int) := by omega
      have hwr : IntKind.i64.wrap ((tl.length : Int) + (el.length : Int)) = (tl.length : Int) + (el.length : Int) := IntWalk.i64_in _ (by omega)
      rcases hsum with hs | hs
      all_goals
        first
          | replace HR := Lib.hid (HR.out.trans (if_neg (show ¬ ((1 : Int) = 1 ∧ 0 < tl.length + el.length) by omega)))
          | replace HR := Lib.hid (HR.out.trans (if_pos (show ((1 : Int) = 1 ∧ 0 < tl.length + el.length) from ⟨rfl, by omega⟩)))
        go_wp2
        go_ret
        exact ⟨by rw [HR.out]; rfl, below_step HW.out (below_step HU.out HB)⟩
    · replace HR := Lib.hid (HR.out.trans (if_neg (show ¬ ((3 : Int) = 1 ∧ 0 < tl.length + el.length) by omega)))
      go_wp2
      go_ret
      exact ⟨by rw [HR.out]; rfl, below_step HW.out (below_step HU.out HB)⟩
  replace HR := Lib.hid (HR.out.trans (if_neg k13))
  by_cases h2 : kd = 2
  · subst h2
    replace HR := Lib.hid (HR.out.trans (if_pos rfl))
    have hp3 := hp2 U HB
    clear k13
    go_wp2_with fail
    refine (rexprCheck_nil p cd _ (HO.out.below (below_step HW.out (below_step HU.out (by first | exact HB | exact below_alloc HB _ | exact below_alloc (below_alloc HB _) _ | exact below_alloc (below_alloc (below_alloc HB _) _) _)))) (HCd.out.below (below_step HU.out (by first | exact HB | exact below_alloc HB _ | exact below_alloc (below_alloc HB _) _ | exact below_alloc (below_alloc (below_alloc HB _) _) _)) (Nat.le_refl _))).mono ?_
    rintro e w1 ⟨rfl, hbN⟩
    replace HB := below_step (by first | exact HB | exact below_alloc HB _ | exact below_alloc (below_alloc HB _) _ | exact below_alloc (below_alloc (below_alloc HB _) _) _) hbN
    clear hbN
    clear hc3 hp3
    by_cases k5 : (exprM p [] cd.l).2 = 0
    · replace HR := Lib.hid (HR.out.trans (if_neg (fun h => h k5)))
      have k5' : ((exprM p [] cd.l).2 == 0) = true := beq_iff_eq.2 k5
      have K5 := Lib.hid k5
      clear k5
      by_cases k6 : (exprM p [] cd.l).1 = 1
      · replace HR := Lib.hid (HR.out.trans (if_neg (fun h => h k6)))
        have k6' : ((exprM p [] cd.l).1 == 1) = true := beq_iff_eq.2 k6
        have k7 : ((exprM p [] cd.l).1 != 1) = false := by rw [bne, k6']; rfl
        clear k6
        go_wp2
        go_ret
        exact ⟨by rw [HR.out]; exact congrArg (fun x => Ending.returned (.int .i64 x)) K5.out, below_step HW.out (below_step HU.out HB)⟩
      · have k6' : ((exprM p [] cd.l).1 == 1) = false := beq_eq_false_iff_ne.2 k6
        have k7 : ((exprM p [] cd.l).1 != 1) = true := by rw [bne, k6']; rfl
        replace HR := Lib.hid (HR.out.trans (if_pos k6))
        clear k6
        go_wp2
        go_ret
        exact ⟨by rw [HR.out]; rfl, below_step HW.out (below_step HU.out HB)⟩
    · have k5' : ((exprM p [] cd.l).2 == 0) = false := beq_eq_false_iff_ne.2 k5
      replace HR := Lib.hid (HR.out.trans (if_pos k5))
      clear k5
      go_wp2
      go_ret
      exact ⟨by rw [HR.out]; rfl, below_step HW.out (below_step HU.out HB)⟩
  replace HR := Lib.hid (HR.out.trans (if_neg h2))
  have hcase : kd < 1 ∨ (¬ kd < 1 ∧ 3 < kd) := by omega
  clear k13 h2
  rcases hcase with h1 | ⟨h1, h2⟩
  all_goals
    go_wp2
    go_ret
    exact ⟨by rw [HR.out]; rfl, below_step HW.out (below_step HU.out HB)⟩

mutual
theorem pre_ok {w : World} : ∀ (x : CtlD), CtlOk w x → ∀ y ∈ preM x, CtlOk w y
  | .mk k t c th el tA eA tc ec, o, y, hy => by
    rw [preM] at hy
    rcases List.mem_cons.1 hy with rfl | hy
    · exact o
    · rw [CtlOk] at o
      rcases List.mem_append.1 hy with h | h
      · exact pres_ok th o.2.2.2.1 y h
      · exact pres_ok el o.2.2.2.2 y h
theorem pres_ok {w : World} : ∀ (l : List CtlD), CtlsOk w l → ∀ y ∈ presM l, CtlOk w y
  | [], _, y, hy => by rw [presM] at hy; cases hy
  | x :: l, o, y, hy => by
    rw [presM] at hy
    rw [CtlsOk] at o
    rcases List.mem_append.1 hy with h | h
    · exact pre_ok x o.1 y h
    · exact pres_ok l o.2 y h
end
mutual
theorem pre_sub : ∀ (x : CtlD), ∀ y ∈ preM x, (preM y).length ≤ (preM x).length
  | .mk k t c th el tA eA tc ec, y, hy => by
    rw [preM] at hy
    rcases List.mem_cons.1 hy with rfl | hy
    · exact Nat.le_refl _
    · rw [preM, List.length_cons, List.length_append]
      rcases List.mem_append.1 hy with h | h
      · have := pres_sub th y h
        omega
      · have := pres_sub el y h
        omega
theorem pres_sub : ∀ (l : List CtlD), ∀ y ∈ presM l, (preM y).length ≤ (presM l).length
  | [], y, hy => by rw [presM] at hy; cases hy
  | x :: l, y, hy => by
    rw [presM] at hy
    rw [presM, List.length_append]
    rcases List.mem_append.1 hy with h | h
    · have := pre_sub x y h
      omega
    · have := pres_sub l y h
      omega
end
theorem pres_kids {l : List CtlD} {y : CtlD} (h : y ∈ presM l) : y.th.l.length + y.el.l.length ≤ (presM l).length := by
  have h1 := pres_sub l y h
  rw [preM_eq, List.length_cons, List.length_append] at h1
  have h2 := pres_len y.th.l
  have h3 := pres_len y.el.l
  omega
set_option maxRecDepth 100000 in
set_option maxHeartbeats 8000000 in
theorem rcontrolCheck_any (p : ProgD) (w : World) (o : ProgOk w p) (hN : (presM p.control.l).length ≤ 90000) :
    Calls Tryz.prog 100 #[.agg (progCells p)] w fun e w' => e = .returned (.tuple #[.int .i64 (ctlM p).1, .int .i64 (ctlM p).2]) ∧ Below w.heap.size w w' := by
  have HO := Lib.hid o
  have HN := Lib.hid hN
  obtain ⟨W, hW, hw, HB, hp⟩ := box1 w (progCells p) 31
  have HW := Lib.hid hw
  have HR := Lib.hid (ctlM.eq_1 p)
  have HNe := Lib.hid (nest_le p.control.l)
  have hN0 : ((presM p.control.l).length : Int) ≤ 90000 := by omega
  have HS := Lib.hid (fun i (h : i < (presM p.control.l).length) => nodeAtM_at p (presM p.control.l) i (presM p.control.l)[i] (List.getElem?_eq_getElem h))
  have HK := Lib.hid (fun i (h : i < (presM p.control.l).length) => pres_kids (List.getElem_mem h))
  have HOk := Lib.hid (fun u (ou : CtlsOk u p.control.l) i (h : i < (presM p.control.l).length) => (ctl_parts (pres_ok p.control.l ou _ (List.getElem_mem h))).1)
  clear o hw hN
  go_enter Tryz.func100, Tryz.ntmps100
  go_upto_region 1 with fail
  rw [← hW]
  clear hW
  have hp3 := hp W HB
  go_wp2_with fail
  refine (rcount_any ((presM p.control.l).length + 1) p.control _ (Nat.lt_succ_self _) HN.out (HO.out.control.below (below_step HW.out (by first | exact HB | exact below_alloc HB _ | exact below_alloc (below_alloc HB _) _ | exact below_alloc (below_alloc (below_alloc HB _) _) _)) (Nat.le_refl _)) (CtlsOk.below (below_step HW.out (by first | exact HB | exact below_alloc HB _ | exact below_alloc (below_alloc HB _) _ | exact below_alloc (below_alloc (below_alloc HB _) _) _)) HO.out.ctl)).mono ?_
  rintro e w1 ⟨rfl, hbN⟩
  replace HB := below_step (by first | exact HB | exact below_alloc HB _ | exact below_alloc (below_alloc HB _) _ | exact below_alloc (below_alloc (below_alloc HB _) _) _) hbN
  clear hbN
  clear hp3
  have hp3 := hp _ HB
  by_cases k1 : 24 < (presM p.control.l).length
  · replace HR := Lib.hid (HR.out.trans (if_pos k1))
    have k1' : (24 : Int) < ((presM p.control.l).length : Int) := by omega
    clear k1
    go_wp2
    go_ret2
    exact ⟨ret_pp HR.out, below_step HW.out HB⟩
  replace HR := Lib.hid (HR.out.trans (if_neg k1))
  have k1' : ¬ (24 : Int) < ((presM p.control.l).length : Int) := by omega
  go_wp2_with fail
  refine (rnesting_any (nestM p.control.l + 1) p.control _ (Nat.lt_succ_self _) (Nat.le_trans HNe.out HN.out) (HO.out.control.below (below_step HW.out (by first | exact HB | exact below_alloc HB _ | exact below_alloc (below_alloc HB _) _ | exact below_alloc (below_alloc (below_alloc HB _) _) _)) (Nat.le_refl _)) (CtlsOk.below (below_step HW.out (by first | exact HB | exact below_alloc HB _ | exact below_alloc (below_alloc HB _) _ | exact below_alloc (below_alloc (below_alloc HB _) _) _)) HO.out.ctl)).mono ?_
  rintro e w2 ⟨rfl, hbN⟩
  replace HB := below_step (by first | exact HB | exact below_alloc HB _ | exact below_alloc (below_alloc HB _) _ | exact below_alloc (below_alloc (below_alloc HB _) _) _) hbN
  clear hbN
  clear hp3
  have hp3 := hp _ HB
  by_cases k2 : 6 < nestM p.control.l
  · replace HR := Lib.hid (HR.out.trans (if_pos k2))
    have k2' : (6 : Int) < (nestM p.control.l : Int) := by omega
    clear k1 k2
    go_wp2
    go_ret2
    exact ⟨ret_pp HR.out, below_step HW.out HB⟩
  replace HR := Lib.hid (HR.out.trans (if_neg k2))
  have k2' : ¬ (6 : Int) < (nestM p.control.l : Int) := by omega
  clear k1 k2
  go_wp2_with fail
  refine (rpre_any ((presM p.control.l).length + 1) p.control _ (Nat.lt_succ_self _) HN.out (HO.out.control.below (below_step HW.out HB) (Nat.le_refl _)) (CtlsOk.below (below_step HW.out HB) HO.out.ctl)).mono ?_
  rintro e w3 ⟨A, cp, rfl, hown, hbN⟩
  replace HB := below_step HB hbN
  obtain ⟨A2, c2, e2, _, hL, _, _⟩ := own_list (l := presM p.control.l) (cells := CtlD.cells) (fun _ => rfl) hown
  cases e2
  have HL := Lib.hid hL
  have HB1 := Lib.hid HB
  clear hbN hown hL hp3
  generalize presM p.control.l = l at *
  go_wp2
  clear HB
  go_loopw [5, 6] (fun iv _ wr => ∃ k : Nat, k ≤ l.length ∧ iv = .int .i64 k ∧ (∀ j, j < k → nodeAtM p l j = none) ∧ Below w3.heap.size w3 wr) (fun i _ _ => l.length - (intOf i).toNat)
  case atStart => exact ⟨0, Nat.zero_le _, rfl, fun j h => absurd h (Nat.not_lt_zero _), Below.refl _ _⟩
  case round =>
    obtain ⟨k, hk, rfl, hpre, HB⟩ := hrel
    have HPre := Lib.hid hpre
    clear hpre
    have hp3 := hp wr (below_step HB1.out HB)
    by_cases hlt : k < l.length
    · have HE := Lib.hid (HS.out k hlt)
      have HCS := Lib.hid (fun u (hb : Below w3.heap.size w3 u) => rcheckNode_any p ⟨l, A, cp⟩ k u (HO.out.below (below_step HW.out (below_step HB1.out hb))) (HL.out.below hb (Nat.le_refl _)) hlt (HOk.out u (CtlsOk.below (below_step HW.out (below_step HB1.out hb)) HO.out.ctl) k hlt) (Nat.le_trans (HK.out k hlt) HN.out))
      have hlt' : (k : Int) < (l.length : Int) := by omega
      simp only at HCS
      generalize nodeM p (usedM (l.take k)) l[k] = nm at *
      go_wp2_with fail
      refine (HCS.out _ (by first | exact HB | exact below_alloc HB _ | exact below_alloc (below_alloc HB _) _ | exact below_alloc (below_alloc (below_alloc HB _) _) _)).mono ?_
      rintro e w4 ⟨rfl, hbN⟩
      replace HB := below_step (by first | exact HB | exact below_alloc HB _ | exact below_alloc (below_alloc HB _) _ | exact below_alloc (below_alloc (below_alloc HB _) _) _) hbN
      clear hbN
      by_cases k1 : nm = 0
      · subst k1
        have HP2 := Lib.hid (firstE_step HPre.out (HE.out.trans (if_neg (by simp))))
        go_wp2
        go_roundw
        case rel => exact ⟨k + 1, by omega, by go_num, HP2.out, HB⟩
        case measure => simp [intOf]; omega
      · have HR2 := Lib.hid (HR.out.trans (show _ = ((k : Int), nm) by rw [firstE_some hlt HPre.out (HE.out.trans (if_pos k1))]))
        have k1' : (nm == 0) = false := beq_eq_false_iff_ne.2 k1
        clear k1
        go_wp2
        go_ret2
        exact ⟨ret_pp HR2.out, below_step HW.out (below_step HB1.out HB)⟩
    · have e : k = l.length := by omega
      have HR2 := Lib.hid (HR.out.trans (show _ = ((0 : Int), (0 : Int)) by rw [firstE_none (by rw [← e]; exact HPre.out)]))
      go_wp2
      go_ret2
      exact ⟨ret_pp HR2.out, below_step HW.out (below_step HB1.out HB)⟩
end Go.Proofs.YtbfjknidinkafaaGreat

