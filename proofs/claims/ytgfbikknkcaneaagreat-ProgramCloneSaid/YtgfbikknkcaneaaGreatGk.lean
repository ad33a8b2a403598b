/- The walks of the reference's equalities of lists of fields, expression nodes and integers, and of statements. No condition but that they lie in memory. -/
import Derived.Test.YtgfbikknkcaneaaGreatGe
namespace Go.Proofs.YtgfbikknkcaneaaGreat
open Go.RowKit

set_option maxRecDepth 100000 in
set_option maxHeartbeats 4000000 in
theorem requal_field (x y : L FieldD) (w : World) (h : LOk w 2 FieldD.cells x) (h2 : LOk w 2 FieldD.cells y) :
    Calls Tryz.prog 141 #[x.v, y.v] w fun e w' => Says e (x.l = y.l) ∧ Below w.heap.size w w' := by
  obtain ⟨l, A0, c0⟩ := x
  obtain ⟨m, A1, c1⟩ := y
  have HX := Lib.hid h
  have HY := Lib.hid h2
  have hmx := h.1
  have hmy := h2.1
  unfold maxLen at hmx hmy
  clear h h2
  simp only [L.v] at *
  by_cases hl : l.length = m.length
  case neg =>
    have hne : (((l.length : Nat) : Int) == ((m.length : Nat) : Int)) = false := by rw [beq_eq_false_iff_ne]; omega
    have hne2 : ¬ ((l.length : Nat) : Int) = ((m.length : Nat) : Int) := by omega
    have HL := Lib.hid hl
    clear hl
    go_enter Tryz.func141, Tryz.ntmps141
    go_wp2
    go_ret
    exact ⟨Says.no (fun e => HL.out (by rw [e])), Below.refl _ _⟩
  rw [← hl]
  have HL := Lib.hid hl
  clear hl hmy
  go_enter Tryz.func141, Tryz.ntmps141
  go_wp2
  go_loopw [5] (fun iv wr => ∃ k : Nat, k ≤ l.length ∧ iv = .int .i64 k ∧ Hid (l.take k = m.take k) ∧ Below w.heap.size w wr) (fun i _ => l.length - (intOf i).toNat)
  case atStart => exact ⟨0, Nat.zero_le _, rfl, Lib.hid rfl, Below.refl _ _⟩
  case round =>
    obtain ⟨k, hk, rfl, HK, HB⟩ := hrel
    by_cases hlt : k < l.length
    · have hlt2 : k < m.length := by have := HL.out; omega
      obtain ⟨g, of, hA, d0, d1⟩ := FieldD.at (HX.out.below HB (Nat.le_refl _)) hlt
      obtain ⟨g2, of2, hA2, e0, e1⟩ := FieldD.at (HY.out.below HB (Nat.le_refl _)) hlt2
      simp only at hA hA2
      subst hA hA2
      simp only at d0 d1 e0 e1
      have HS : Hid (l[k] = m[k] → l.take (k + 1) = m.take (k + 1)) := Lib.hid (take_step hlt hlt2 HK.out)
      have HN : Hid (¬ l[k] = m[k] → ¬ l = m) := Lib.hid (fun h e => h (by subst e; rfl))
      generalize l[k] = a at *
      generalize m[k] = b at *
      clear hlt2
      obtain ⟨bb, hb0, hbb⟩ := neq_field a b
      have HBB := Lib.hid hb0
      clear hb0
      cases bb with
      | true =>
        have HN2 := Lib.hid (HN.out (by intro e; have := HBB.out.2 e; cases this))
        clear HN HS
        go_wp2
        go_quiet (fail)
        go_wp2
        go_ret
        exact ⟨Says.no HN2.out, below_drewN HB _⟩
      | false =>
        have HS2 := Lib.hid (HS.out (by exact HBB.out.1 rfl))
        clear HN HS
        go_wp2
        go_quiet (fail)
        go_wp2
        go_roundw
        case rel => exact ⟨k + 1, by omega, by go_num, HS2, below_drewN HB _⟩
        case measure => simp [intOf]; omega
    · have hk' : k = l.length := by omega
      subst hk'
      have HE : Hid (l = m) := Lib.hid (by have := HK.out; rw [List.take_length, HL.out, List.take_length] at this; exact this)
      go_wp2
      go_ret
      exact ⟨Says.yes HE.out, HB⟩
set_option maxRecDepth 100000 in
set_option maxHeartbeats 4000000 in
theorem requal_node (x y : L NodeD) (w : World) (h : LOk w 3 NodeD.cells x) (h2 : LOk w 3 NodeD.cells y) :
    Calls Tryz.prog 143 #[x.v, y.v] w fun e w' => Says e (x.l = y.l) ∧ Below w.heap.size w w' := by
  obtain ⟨l, A0, c0⟩ := x
  obtain ⟨m, A1, c1⟩ := y
  have HX := Lib.hid h
  have HY := Lib.hid h2
  have hmx := h.1
  have hmy := h2.1
  unfold maxLen at hmx hmy
  clear h h2
  simp only [L.v] at *
  by_cases hl : l.length = m.length
  case neg =>
    have hne : (((l.length : Nat) : Int) == ((m.length : Nat) : Int)) = false := by rw [beq_eq_false_iff_ne]; omega
    have hne2 : ¬ ((l.length : Nat) : Int) = ((m.length : Nat) : Int) := by omega
    have HL := Lib.hid hl
    clear hl
    go_enter Tryz.func143, Tryz.ntmps143
    go_wp2
    go_ret
    exact ⟨Says.no (fun e => HL.out (by rw [e])), Below.refl _ _⟩
  rw [← hl]
  have HL := Lib.hid hl
  clear hl hmy
  go_enter Tryz.func143, Tryz.ntmps143
  go_wp2
  go_loopw [5] (fun iv wr => ∃ k : Nat, k ≤ l.length ∧ iv = .int .i64 k ∧ Hid (l.take k = m.take k) ∧ Below w.heap.size w wr) (fun i _ => l.length - (intOf i).toNat)
  case atStart => exact ⟨0, Nat.zero_le _, rfl, Lib.hid rfl, Below.refl _ _⟩
  case round =>
    obtain ⟨k, hk, rfl, HK, HB⟩ := hrel
    by_cases hlt : k < l.length
    · have hlt2 : k < m.length := by have := HL.out; omega
      obtain ⟨g, of, hA, d0, d1, d2⟩ := NodeD.at (HX.out.below HB (Nat.le_refl _)) hlt
      obtain ⟨g2, of2, hA2, e0, e1, e2⟩ := NodeD.at (HY.out.below HB (Nat.le_refl _)) hlt2
      simp only at hA hA2
      subst hA hA2
      simp only at d0 d1 d2 e0 e1 e2
      have HS : Hid (l[k] = m[k] → l.take (k + 1) = m.take (k + 1)) := Lib.hid (take_step hlt hlt2 HK.out)
      have HN : Hid (¬ l[k] = m[k] → ¬ l = m) := Lib.hid (fun h e => h (by subst e; rfl))
      generalize l[k] = a at *
      generalize m[k] = b at *
      clear hlt2
      obtain ⟨bb, hb0, hbb⟩ := neq_node a b
      have HBB := Lib.hid hb0
      clear hb0
      cases bb with
      | true =>
        have HN2 := Lib.hid (HN.out (by intro e; have := HBB.out.2 e; cases this))
        clear HN HS
        go_wp2
        go_quiet (fail)
        go_wp2
        go_ret
        exact ⟨Says.no HN2.out, below_drewN HB _⟩
      | false =>
        have HS2 := Lib.hid (HS.out (by exact HBB.out.1 rfl))
        clear HN HS
        go_wp2
        go_quiet (fail)
        go_wp2
        go_roundw
        case rel => exact ⟨k + 1, by omega, by go_num, HS2, below_drewN HB _⟩
        case measure => simp [intOf]; omega
    · have hk' : k = l.length := by omega
      subst hk'
      have HE : Hid (l = m) := Lib.hid (by have := HK.out; rw [List.take_length, HL.out, List.take_length] at this; exact this)
      go_wp2
      go_ret
      exact ⟨Says.yes HE.out, HB⟩
set_option maxRecDepth 100000 in
set_option maxHeartbeats 4000000 in
theorem requal_int (x y : L Int) (w : World) (h : LOk w 1 icell x) (h2 : LOk w 1 icell y) :
    Calls Tryz.prog 87 #[x.v, y.v] w fun e w' => Says e (x.l = y.l) ∧ Below w.heap.size w w' := by
  obtain ⟨l, A0, c0⟩ := x
  obtain ⟨m, A1, c1⟩ := y
  have HX := Lib.hid h
  have HY := Lib.hid h2
  have hmx := h.1
  have hmy := h2.1
  unfold maxLen at hmx hmy
  clear h h2
  simp only [L.v] at *
  by_cases hl : l.length = m.length
  case neg =>
    have hne : (((l.length : Nat) : Int) == ((m.length : Nat) : Int)) = false := by rw [beq_eq_false_iff_ne]; omega
    have hne2 : ¬ ((l.length : Nat) : Int) = ((m.length : Nat) : Int) := by omega
    have HL := Lib.hid hl
    clear hl
    go_enter Tryz.func87, Tryz.ntmps87
    go_wp2
    go_ret
    exact ⟨Says.no (fun e => HL.out (by rw [e])), Below.refl _ _⟩
  rw [← hl]
  have HL := Lib.hid hl
  clear hl hmy
  go_enter Tryz.func87, Tryz.ntmps87
  go_wp2
  go_loopw [5] (fun iv wr => ∃ k : Nat, k ≤ l.length ∧ iv = .int .i64 k ∧ Hid (l.take k = m.take k) ∧ Below w.heap.size w wr) (fun i _ => l.length - (intOf i).toNat)
  case atStart => exact ⟨0, Nat.zero_le _, rfl, Lib.hid rfl, Below.refl _ _⟩
  case round =>
    obtain ⟨k, hk, rfl, HK, HB⟩ := hrel
    by_cases hlt : k < l.length
    · have hlt2 : k < m.length := by have := HL.out; omega
      obtain ⟨g, of, hA, d0⟩ := icell_at (HX.out.below HB (Nat.le_refl _)) hlt
      obtain ⟨g2, of2, hA2, e0⟩ := icell_at (HY.out.below HB (Nat.le_refl _)) hlt2
      simp only at hA hA2
      subst hA hA2
      simp only at d0 e0
      have HS : Hid (l[k] = m[k] → l.take (k + 1) = m.take (k + 1)) := Lib.hid (take_step hlt hlt2 HK.out)
      have HN : Hid (¬ l[k] = m[k] → ¬ l = m) := Lib.hid (fun h e => h (by subst e; rfl))
      generalize l[k] = a at *
      generalize m[k] = b at *
      clear hlt2
      obtain ⟨bb, hbb⟩ : ∃ bb, (a != b) = bb := ⟨_, rfl⟩
      have HBB := Lib.hid (show bb = false ↔ a = b by rw [← hbb]; simp)
      cases bb with
      | true =>
        have HN2 := Lib.hid (HN.out (by intro e; have := HBB.out.2 e; cases this))
        clear HN HS
        go_wp2
        go_quiet (fail)
        go_wp2
        go_ret
        exact ⟨Says.no HN2.out, below_drewN HB _⟩
      | false =>
        have HS2 := Lib.hid (HS.out (by exact HBB.out.1 rfl))
        clear HN HS
        go_wp2
        go_quiet (fail)
        go_wp2
        go_roundw
        case rel => exact ⟨k + 1, by omega, by go_num, HS2, below_drewN HB _⟩
        case measure => simp [intOf]; omega
    · have hk' : k = l.length := by omega
      subst hk'
      have HE : Hid (l = m) := Lib.hid (by have := HK.out; rw [List.take_length, HL.out, List.take_length] at this; exact this)
      go_wp2
      go_ret
      exact ⟨Says.yes HE.out, HB⟩
set_option maxRecDepth 100000 in
set_option maxHeartbeats 8000000 in
theorem rstmt_any (x y : StmtD) (w : World) (hx : StmtOk w x) (hy : StmtOk w y) :
    Calls Tryz.prog 142 #[.agg #[.int .i64 x.kind, .int .i64 x.dh, .int .i64 x.df, .int .i64 x.reg, .int .i64 x.hdr, .slice x.index.A x.index.l.length x.index.c, .slice x.value.A x.value.l.length x.value.c], .agg #[.int .i64 y.kind, .int .i64 y.dh, .int .i64 y.df, .int .i64 y.reg, .int .i64 y.hdr, .slice y.index.A y.index.l.length y.index.c, .slice y.value.A y.value.l.length y.value.c]] w fun e w' => Says e (x.bare = y.bare) ∧ Below w.heap.size w w' := by
  obtain ⟨W, hW, hw, HB, hp⟩ := box2 w #[.int .i64 x.kind, .int .i64 x.dh, .int .i64 x.df, .int .i64 x.reg, .int .i64 x.hdr, .slice x.index.A x.index.l.length x.index.c, .slice x.value.A x.value.l.length x.value.c] 129 #[.int .i64 y.kind, .int .i64 y.dh, .int .i64 y.df, .int .i64 y.reg, .int .i64 y.hdr, .slice y.index.A y.index.l.length y.index.c, .slice y.value.A y.value.l.length y.value.c] 129
  have HW := Lib.hid hw
  have HX := Lib.hid hx
  have HY := Lib.hid hy
  clear hx hy hw
  go_enter Tryz.func142, Tryz.ntmps142
  go_upto_region 1 with fail
  rw [← hW]
  clear hW
  by_cases hN : x.kind = y.kind
  case neg =>
    have hB0 : (x.kind == y.kind) = false := beq_eq_false_iff_ne.2 hN
    have HN := Lib.hid hN
    clear hN
    go_wp2
    go_ret
    exact ⟨Says.no (fun e => HN.out (congrArg StmtP.kind e)), below_step HW.out HB⟩
  have hB0 : (x.kind == y.kind) = true := beq_iff_eq.2 hN
  have HE0 := Lib.hid hN
  clear hN
  obtain ⟨r1, hr1, hR1⟩ := eql_ref x.dh x.df y.dh y.df
  have HE1 := Lib.hid hr1
  clear hr1
  cases r1
  case false =>
    go_wp2
    go_ret
    exact ⟨Says.no (fun e => by have h := HE1.out.2 ⟨congrArg StmtP.dh e, congrArg StmtP.df e⟩; cases h), below_step HW.out HB⟩
  by_cases hN : x.reg = y.reg
  case neg =>
    have hB2 : (x.reg == y.reg) = false := beq_eq_false_iff_ne.2 hN
    have HN := Lib.hid hN
    clear hN
    go_wp2
    go_ret
    exact ⟨Says.no (fun e => HN.out (congrArg StmtP.reg e)), below_step HW.out HB⟩
  have hB2 : (x.reg == y.reg) = true := beq_iff_eq.2 hN
  have HE2 := Lib.hid hN
  clear hN
  by_cases hN : x.hdr = y.hdr
  case neg =>
    have hB3 : (x.hdr == y.hdr) = false := beq_eq_false_iff_ne.2 hN
    have HN := Lib.hid hN
    clear hN
    go_wp2
    go_ret
    exact ⟨Says.no (fun e => HN.out (congrArg StmtP.hdr e)), below_step HW.out HB⟩
  have hB3 : (x.hdr == y.hdr) = true := beq_iff_eq.2 hN
  have HE3 := Lib.hid hN
  clear hN
  go_wp2_with fail
  refine (requal_node x.index y.index _ (HX.out.index.below (below_step HW.out HB) (Nat.le_refl _)) (HY.out.index.below (below_step HW.out HB) (Nat.le_refl _))).mono ?_
  rintro e w4 ⟨⟨b, rfl, hb⟩, hbN⟩
  replace HB := below_step HB hbN
  have HE4 := Lib.hid hb
  clear hbN hb
  cases b
  case false =>
    go_wp2
    go_ret
    exact ⟨Says.no (fun e => by have h := HE4.out.2 (congrArg StmtP.index e); cases h), below_step HW.out HB⟩
  go_wp2_with fail
  refine (requal_node x.value y.value _ (HX.out.value.below (below_step HW.out HB) (Nat.le_refl _)) (HY.out.value.below (below_step HW.out HB) (Nat.le_refl _))).mono ?_
  rintro e w5 ⟨⟨b, rfl, hb⟩, hbN⟩
  replace HB := below_step HB hbN
  have HE5 := Lib.hid hb
  clear hbN hb
  cases b
  case false =>
    go_wp2
    go_ret
    exact ⟨Says.no (fun e => by have h := HE5.out.2 (congrArg StmtP.value e); cases h), below_step HW.out HB⟩
  go_wp2
  go_ret
  exact ⟨Says.yes (by show StmtP.mk _ _ _ _ _ _ _ = StmtP.mk _ _ _ _ _ _ _; rw [HE0.out, (HE1.out.1 (by trivial)).1, (HE1.out.1 (by trivial)).2, HE2.out, HE3.out, HE4.out.1 (by trivial), HE5.out.1 (by trivial)]), below_step HW.out HB⟩
end Go.Proofs.YtgfbikknkcaneaaGreat
