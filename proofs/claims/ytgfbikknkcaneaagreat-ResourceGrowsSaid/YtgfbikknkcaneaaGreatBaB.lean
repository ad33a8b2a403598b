/- The walks of slices.Clone at the element types of a program. No condition but that the list lies in memory, with at most a hundred elements. -/
import Derived.Test.YtgfbikknkcaneaaGreatBaA
import Derived.Lib.SliceRun
namespace Go.Proofs.YtgfbikknkcaneaaGreat
open Go.RowKit

theorem info_field : (Tryz.prog.info? 63).map (fun i => (i.zero, i.size, i.bytes)) = some (some (.agg #[.string ⟨#[]⟩, .int .i64 0]), 2, 24) := by kernel_rfl
theorem one_field : ∀ u, ∀ c ∈ FieldD.cells u, c.oneCell' = true := by
  intro u c hc
  simp [FieldD.cells] at hc; rcases hc with rfl | rfl <;> rfl
set_option maxRecDepth 100000 in
set_option maxHeartbeats 2000000 in
theorem clone_field (x : L FieldD) (w : World) (h : LOk w 2 FieldD.cells x) (hm : x.l.length ≤ 100) :
    Calls Tryz.prog 58 #[x.v] w fun e w' => ∃ A c, e = .returned (.slice A x.l.length c) ∧ Own w' (fun g => w.heap.size ≤ g) 63 2 FieldD.cells ⟨x.l, A, c⟩ ∧ Below w.heap.size w w' := by
  obtain ⟨l, A0, c0⟩ := x
  have HX := Lib.hid h
  clear h
  simp only [L.v] at *
  have q0 : ∀ (w : World) (a : Option Addr) (n c n' c' : Nat), (binOp .eql 23 (.slice a n c) (.slice none n' c')).run Tryz.prog w = .ok (.bool a.isNone) w := fun w a n c n' c' => Lib.run_eql_slice_nil w _ _ a n c n' c' Tryz.underlying23
  cases A0 with
  | none =>
    have hl : l = [] := by
      rcases HX.out.2 with h | ⟨g, o, e, _⟩
      · exact h
      · cases e
    subst hl
    clear hm HX
    go_enter Tryz.func58, Tryz.ntmps58
    go_wp2
    go_ret
    exact ⟨none, 0, rfl, Own.nil _ _ _ _ _, Below.refl _ _⟩
  | some ad =>
    obtain ⟨i0, hi, hz0, hz1, hz2⟩ := info_parts info_field
    go_enter Tryz.func58, Tryz.ntmps58
    go_wp2_with (first
      | (at_builtin; refine wpList_append_L rfl _ _ 23 rfl w.heap.size 63 i0 _ 2 24 Tryz.underlying23 hi hz0 hz1 hz2 rfl (by decide) _ _ _ rfl (own_empty _ _ _ _ (Nat.le_refl _)) ⟨l, some ad, c0⟩ rfl (HX.out.below (below1 _ _) (Nat.le_refl _)) (fun e => by cases e) (fun _ => rfl) one_field ?c1 ?c2 ?c3 ?_))
    case c1 => unfold maxLen; omega
    case c2 => omega
    case c3 => simp
    intro v' w2 hown2 hgrow
    have HG := Lib.hid hgrow
    have HOwn := Lib.hid hown2
    clear hown2 hgrow
    go_wp2
    go_ret
    have hown3 := HOwn.out
    try simp only [Nat.zero_add, List.nil_append] at hown3
    obtain ⟨A, c, rfl, hO⟩ := Own.of (k := 2) (cells := FieldD.cells) (fun _ => rfl) hown3
    exact ⟨A, c, rfl, hO, (below1 w _).trans (grown_below (own_empty _ _ _ 2 (Nat.le_refl _)) HG.out (by simp))⟩

theorem info_reg : (Tryz.prog.info? 65).map (fun i => (i.zero, i.size, i.bytes)) = some (some (.agg #[.string ⟨#[]⟩, .int .i64 0, .int .i64 0]), 3, 32) := by kernel_rfl
theorem one_reg : ∀ u, ∀ c ∈ RegD.cells u, c.oneCell' = true := by
  intro u c hc
  simp [RegD.cells] at hc; rcases hc with rfl | rfl | rfl <;> rfl
set_option maxRecDepth 100000 in
set_option maxHeartbeats 2000000 in
theorem clone_reg (x : L RegD) (w : World) (h : LOk w 3 RegD.cells x) (hm : x.l.length ≤ 100) :
    Calls Tryz.prog 59 #[x.v] w fun e w' => ∃ A c, e = .returned (.slice A x.l.length c) ∧ Own w' (fun g => w.heap.size ≤ g) 65 3 RegD.cells ⟨x.l, A, c⟩ ∧ Below w.heap.size w w' := by
  obtain ⟨l, A0, c0⟩ := x
  have HX := Lib.hid h
  clear h
  simp only [L.v] at *
  have q0 : ∀ (w : World) (a : Option Addr) (n c n' c' : Nat), (binOp .eql 24 (.slice a n c) (.slice none n' c')).run Tryz.prog w = .ok (.bool a.isNone) w := fun w a n c n' c' => Lib.run_eql_slice_nil w _ _ a n c n' c' Tryz.underlying24
  cases A0 with
  | none =>
    have hl : l = [] := by
      rcases HX.out.2 with h | ⟨g, o, e, _⟩
      · exact h
      · cases e
    subst hl
    clear hm HX
    go_enter Tryz.func59, Tryz.ntmps59
    go_wp2
    go_ret
    exact ⟨none, 0, rfl, Own.nil _ _ _ _ _, Below.refl _ _⟩
  | some ad =>
    obtain ⟨i0, hi, hz0, hz1, hz2⟩ := info_parts info_reg
    go_enter Tryz.func59, Tryz.ntmps59
    go_wp2_with (first
      | (at_builtin; refine wpList_append_L rfl _ _ 24 rfl w.heap.size 65 i0 _ 3 32 Tryz.underlying24 hi hz0 hz1 hz2 rfl (by decide) _ _ _ rfl (own_empty _ _ _ _ (Nat.le_refl _)) ⟨l, some ad, c0⟩ rfl (HX.out.below (below1 _ _) (Nat.le_refl _)) (fun e => by cases e) (fun _ => rfl) one_reg ?c1 ?c2 ?c3 ?_))
    case c1 => unfold maxLen; omega
    case c2 => omega
    case c3 => simp
    intro v' w2 hown2 hgrow
    have HG := Lib.hid hgrow
    have HOwn := Lib.hid hown2
    clear hown2 hgrow
    go_wp2
    go_ret
    have hown3 := HOwn.out
    try simp only [Nat.zero_add, List.nil_append] at hown3
    obtain ⟨A, c, rfl, hO⟩ := Own.of (k := 3) (cells := RegD.cells) (fun _ => rfl) hown3
    exact ⟨A, c, rfl, hO, (below1 w _).trans (grown_below (own_empty _ _ _ 3 (Nat.le_refl _)) HG.out (by simp))⟩

theorem info_int : (Tryz.prog.info? 3).map (fun i => (i.zero, i.size, i.bytes)) = some (some (.int .i64 0), 1, 8) := by kernel_rfl
theorem one_int : ∀ u, ∀ c ∈ icell u, c.oneCell' = true := by
  intro u c hc
  simp [icell] at hc; subst hc; rfl
set_option maxRecDepth 100000 in
set_option maxHeartbeats 2000000 in
theorem clone_int (x : L Int) (w : World) (h : LOk w 1 icell x) (hm : x.l.length ≤ 100) :
    Calls Tryz.prog 68 #[x.v] w fun e w' => ∃ A c, e = .returned (.slice A x.l.length c) ∧ Own w' (fun g => w.heap.size ≤ g) 3 1 icell ⟨x.l, A, c⟩ ∧ Below w.heap.size w w' := by
  obtain ⟨l, A0, c0⟩ := x
  have HX := Lib.hid h
  clear h
  simp only [L.v] at *
  have q0 : ∀ (w : World) (a : Option Addr) (n c n' c' : Nat), (binOp .eql 29 (.slice a n c) (.slice none n' c')).run Tryz.prog w = .ok (.bool a.isNone) w := fun w a n c n' c' => Lib.run_eql_slice_nil w _ _ a n c n' c' Tryz.underlying29
  cases A0 with
  | none =>
    have hl : l = [] := by
      rcases HX.out.2 with h | ⟨g, o, e, _⟩
      · exact h
      · cases e
    subst hl
    clear hm HX
    go_enter Tryz.func68, Tryz.ntmps68
    go_wp2
    go_ret
    exact ⟨none, 0, rfl, Own.nil _ _ _ _ _, Below.refl _ _⟩
  | some ad =>
    obtain ⟨i0, hi, hz0, hz1, hz2⟩ := info_parts info_int
    go_enter Tryz.func68, Tryz.ntmps68
    go_wp2_with (first
      | (at_builtin; refine wpList_append_L rfl _ _ 29 rfl w.heap.size 3 i0 _ 1 8 Tryz.underlying29 hi hz0 hz1 hz2 rfl (by decide) _ _ _ rfl (own_empty _ _ _ _ (Nat.le_refl _)) ⟨l, some ad, c0⟩ rfl (HX.out.below (below1 _ _) (Nat.le_refl _)) (fun e => by cases e) (fun _ => rfl) one_int ?c1 ?c2 ?c3 ?_))
    case c1 => unfold maxLen; omega
    case c2 => omega
    case c3 => simp
    intro v' w2 hown2 hgrow
    have HG := Lib.hid hgrow
    have HOwn := Lib.hid hown2
    clear hown2 hgrow
    go_wp2
    go_ret
    have hown3 := HOwn.out
    try simp only [Nat.zero_add, List.nil_append] at hown3
    obtain ⟨A, c, rfl, hO⟩ := Own.of (k := 1) (cells := icell) (fun _ => rfl) hown3
    exact ⟨A, c, rfl, hO, (below1 w _).trans (grown_below (own_empty _ _ _ 1 (Nat.le_refl _)) HG.out (by simp))⟩

theorem info_u32 : (Tryz.prog.info? 134).map (fun i => (i.zero, i.size, i.bytes)) = some (some (.int .u32 0), 1, 4) := by kernel_rfl
theorem one_u32 : ∀ u, ∀ c ∈ ucell u, c.oneCell' = true := by
  intro u c hc
  simp [ucell] at hc; subst hc; rfl
set_option maxRecDepth 100000 in
set_option maxHeartbeats 2000000 in
theorem clone_u32 (x : L Int) (w : World) (h : LOk w 1 ucell x) (hm : x.l.length ≤ 100) :
    Calls Tryz.prog 132 #[x.v] w fun e w' => ∃ A c, e = .returned (.slice A x.l.length c) ∧ Own w' (fun g => w.heap.size ≤ g) 134 1 ucell ⟨x.l, A, c⟩ ∧ Below w.heap.size w w' := by
  obtain ⟨l, A0, c0⟩ := x
  have HX := Lib.hid h
  clear h
  simp only [L.v] at *
  have q0 : ∀ (w : World) (a : Option Addr) (n c n' c' : Nat), (binOp .eql 48 (.slice a n c) (.slice none n' c')).run Tryz.prog w = .ok (.bool a.isNone) w := fun w a n c n' c' => Lib.run_eql_slice_nil w _ _ a n c n' c' Tryz.underlying48
  cases A0 with
  | none =>
    have hl : l = [] := by
      rcases HX.out.2 with h | ⟨g, o, e, _⟩
      · exact h
      · cases e
    subst hl
    clear hm HX
    go_enter Tryz.func132, Tryz.ntmps132
    go_wp2
    go_ret
    exact ⟨none, 0, rfl, Own.nil _ _ _ _ _, Below.refl _ _⟩
  | some ad =>
    obtain ⟨i0, hi, hz0, hz1, hz2⟩ := info_parts info_u32
    go_enter Tryz.func132, Tryz.ntmps132
    go_wp2_with (first
      | (at_builtin; refine wpList_append_L rfl _ _ 48 rfl w.heap.size 134 i0 _ 1 4 Tryz.underlying48 hi hz0 hz1 hz2 rfl (by decide) _ _ _ rfl (own_empty _ _ _ _ (Nat.le_refl _)) ⟨l, some ad, c0⟩ rfl (HX.out.below (below1 _ _) (Nat.le_refl _)) (fun e => by cases e) (fun _ => rfl) one_u32 ?c1 ?c2 ?c3 ?_))
    case c1 => unfold maxLen; omega
    case c2 => omega
    case c3 => simp
    intro v' w2 hown2 hgrow
    have HG := Lib.hid hgrow
    have HOwn := Lib.hid hown2
    clear hown2 hgrow
    go_wp2
    go_ret
    have hown3 := HOwn.out
    try simp only [Nat.zero_add, List.nil_append] at hown3
    obtain ⟨A, c, rfl, hO⟩ := Own.of (k := 1) (cells := ucell) (fun _ => rfl) hown3
    exact ⟨A, c, rfl, hO, (below1 w _).trans (grown_below (own_empty _ _ _ 1 (Nat.le_refl _)) HG.out (by simp))⟩

theorem info_node : (Tryz.prog.info? 131).map (fun i => (i.zero, i.size, i.bytes)) = some (some (.agg #[.int .i64 0, .int .i64 0, .int .i64 0]), 3, 24) := by kernel_rfl
theorem one_node : ∀ u, ∀ c ∈ NodeD.cells u, c.oneCell' = true := by
  intro u c hc
  simp [NodeD.cells] at hc; rcases hc with rfl | rfl | rfl <;> rfl
set_option maxRecDepth 100000 in
set_option maxHeartbeats 2000000 in
theorem clone_node (x : L NodeD) (w : World) (h : LOk w 3 NodeD.cells x) (hm : x.l.length ≤ 100) :
    Calls Tryz.prog 134 #[x.v] w fun e w' => ∃ A c, e = .returned (.slice A x.l.length c) ∧ Own w' (fun g => w.heap.size ≤ g) 131 3 NodeD.cells ⟨x.l, A, c⟩ ∧ Below w.heap.size w w' := by
  obtain ⟨l, A0, c0⟩ := x
  have HX := Lib.hid h
  clear h
  simp only [L.v] at *
  have q0 : ∀ (w : World) (a : Option Addr) (n c n' c' : Nat), (binOp .eql 32 (.slice a n c) (.slice none n' c')).run Tryz.prog w = .ok (.bool a.isNone) w := fun w a n c n' c' => Lib.run_eql_slice_nil w _ _ a n c n' c' Tryz.underlying32
  cases A0 with
  | none =>
    have hl : l = [] := by
      rcases HX.out.2 with h | ⟨g, o, e, _⟩
      · exact h
      · cases e
    subst hl
    clear hm HX
    go_enter Tryz.func134, Tryz.ntmps134
    go_wp2
    go_ret
    exact ⟨none, 0, rfl, Own.nil _ _ _ _ _, Below.refl _ _⟩
  | some ad =>
    obtain ⟨i0, hi, hz0, hz1, hz2⟩ := info_parts info_node
    go_enter Tryz.func134, Tryz.ntmps134
    go_wp2_with (first
      | (at_builtin; refine wpList_append_L rfl _ _ 32 rfl w.heap.size 131 i0 _ 3 24 Tryz.underlying32 hi hz0 hz1 hz2 rfl (by decide) _ _ _ rfl (own_empty _ _ _ _ (Nat.le_refl _)) ⟨l, some ad, c0⟩ rfl (HX.out.below (below1 _ _) (Nat.le_refl _)) (fun e => by cases e) (fun _ => rfl) one_node ?c1 ?c2 ?c3 ?_))
    case c1 => unfold maxLen; omega
    case c2 => omega
    case c3 => simp
    intro v' w2 hown2 hgrow
    have HG := Lib.hid hgrow
    have HOwn := Lib.hid hown2
    clear hown2 hgrow
    go_wp2
    go_ret
    have hown3 := HOwn.out
    try simp only [Nat.zero_add, List.nil_append] at hown3
    obtain ⟨A, c, rfl, hO⟩ := Own.of (k := 3) (cells := NodeD.cells) (fun _ => rfl) hown3
    exact ⟨A, c, rfl, hO, (below1 w _).trans (grown_below (own_empty _ _ _ 3 (Nat.le_refl _)) HG.out (by simp))⟩

theorem info_key : (Tryz.prog.info? 133).map (fun i => (i.zero, i.size, i.bytes)) = some (some (.agg #[.int .i64 0, .int .i64 0, .int .i64 0]), 3, 24) := by kernel_rfl
theorem one_key : ∀ u, ∀ c ∈ KeyD.cells u, c.oneCell' = true := by
  intro u c hc
  simp [KeyD.cells] at hc; rcases hc with rfl | rfl | rfl <;> rfl
set_option maxRecDepth 100000 in
set_option maxHeartbeats 2000000 in
theorem clone_key (x : L KeyD) (w : World) (h : LOk w 3 KeyD.cells x) (hm : x.l.length ≤ 100) :
    Calls Tryz.prog 131 #[x.v] w fun e w' => ∃ A c, e = .returned (.slice A x.l.length c) ∧ Own w' (fun g => w.heap.size ≤ g) 133 3 KeyD.cells ⟨x.l, A, c⟩ ∧ Below w.heap.size w w' := by
  obtain ⟨l, A0, c0⟩ := x
  have HX := Lib.hid h
  clear h
  simp only [L.v] at *
  have q0 : ∀ (w : World) (a : Option Addr) (n c n' c' : Nat), (binOp .eql 47 (.slice a n c) (.slice none n' c')).run Tryz.prog w = .ok (.bool a.isNone) w := fun w a n c n' c' => Lib.run_eql_slice_nil w _ _ a n c n' c' Tryz.underlying47
  cases A0 with
  | none =>
    have hl : l = [] := by
      rcases HX.out.2 with h | ⟨g, o, e, _⟩
      · exact h
      · cases e
    subst hl
    clear hm HX
    go_enter Tryz.func131, Tryz.ntmps131
    go_wp2
    go_ret
    exact ⟨none, 0, rfl, Own.nil _ _ _ _ _, Below.refl _ _⟩
  | some ad =>
    obtain ⟨i0, hi, hz0, hz1, hz2⟩ := info_parts info_key
    go_enter Tryz.func131, Tryz.ntmps131
    go_wp2_with (first
      | (at_builtin; refine wpList_append_L rfl _ _ 47 rfl w.heap.size 133 i0 _ 3 24 Tryz.underlying47 hi hz0 hz1 hz2 rfl (by decide) _ _ _ rfl (own_empty _ _ _ _ (Nat.le_refl _)) ⟨l, some ad, c0⟩ rfl (HX.out.below (below1 _ _) (Nat.le_refl _)) (fun e => by cases e) (fun _ => rfl) one_key ?c1 ?c2 ?c3 ?_))
    case c1 => unfold maxLen; omega
    case c2 => omega
    case c3 => simp
    intro v' w2 hown2 hgrow
    have HG := Lib.hid hgrow
    have HOwn := Lib.hid hown2
    clear hown2 hgrow
    go_wp2
    go_ret
    have hown3 := HOwn.out
    try simp only [Nat.zero_add, List.nil_append] at hown3
    obtain ⟨A, c, rfl, hO⟩ := Own.of (k := 3) (cells := KeyD.cells) (fun _ => rfl) hown3
    exact ⟨A, c, rfl, hO, (below1 w _).trans (grown_below (own_empty _ _ _ 3 (Nat.le_refl _)) HG.out (by simp))⟩

theorem info_case : (Tryz.prog.info? 166).map (fun i => (i.zero, i.size, i.bytes)) = some (some (.agg #[.int .u32 0, .int .u32 0, .int .i64 0]), 3, 16) := by kernel_rfl
theorem one_case : ∀ u, ∀ c ∈ CaseD.cells u, c.oneCell' = true := by
  intro u c hc
  simp [CaseD.cells] at hc; rcases hc with rfl | rfl | rfl <;> rfl
set_option maxRecDepth 100000 in
set_option maxHeartbeats 2000000 in
theorem clone_case (x : L CaseD) (w : World) (h : LOk w 3 CaseD.cells x) (hm : x.l.length ≤ 100) :
    Calls Tryz.prog 133 #[x.v] w fun e w' => ∃ A c, e = .returned (.slice A x.l.length c) ∧ Own w' (fun g => w.heap.size ≤ g) 166 3 CaseD.cells ⟨x.l, A, c⟩ ∧ Below w.heap.size w w' := by
  obtain ⟨l, A0, c0⟩ := x
  have HX := Lib.hid h
  clear h
  simp only [L.v] at *
  have q0 : ∀ (w : World) (a : Option Addr) (n c n' c' : Nat), (binOp .eql 71 (.slice a n c) (.slice none n' c')).run Tryz.prog w = .ok (.bool a.isNone) w := fun w a n c n' c' => Lib.run_eql_slice_nil w _ _ a n c n' c' Tryz.underlying71
  cases A0 with
  | none =>
    have hl : l = [] := by
      rcases HX.out.2 with h | ⟨g, o, e, _⟩
      · exact h
      · cases e
    subst hl
    clear hm HX
    go_enter Tryz.func133, Tryz.ntmps133
    go_wp2
    go_ret
    exact ⟨none, 0, rfl, Own.nil _ _ _ _ _, Below.refl _ _⟩
  | some ad =>
    obtain ⟨i0, hi, hz0, hz1, hz2⟩ := info_parts info_case
    go_enter Tryz.func133, Tryz.ntmps133
    go_wp2_with (first
      | (at_builtin; refine wpList_append_L rfl _ _ 71 rfl w.heap.size 166 i0 _ 3 16 Tryz.underlying71 hi hz0 hz1 hz2 rfl (by decide) _ _ _ rfl (own_empty _ _ _ _ (Nat.le_refl _)) ⟨l, some ad, c0⟩ rfl (HX.out.below (below1 _ _) (Nat.le_refl _)) (fun e => by cases e) (fun _ => rfl) one_case ?c1 ?c2 ?c3 ?_))
    case c1 => unfold maxLen; omega
    case c2 => omega
    case c3 => simp
    intro v' w2 hown2 hgrow
    have HG := Lib.hid hgrow
    have HOwn := Lib.hid hown2
    clear hown2 hgrow
    go_wp2
    go_ret
    have hown3 := HOwn.out
    try simp only [Nat.zero_add, List.nil_append] at hown3
    obtain ⟨A, c, rfl, hO⟩ := Own.of (k := 3) (cells := CaseD.cells) (fun _ => rfl) hown3
    exact ⟨A, c, rfl, hO, (below1 w _).trans (grown_below (own_empty _ _ _ 3 (Nat.le_refl _)) HG.out (by simp))⟩

end Go.Proofs.YtgfbikknkcaneaaGreat

