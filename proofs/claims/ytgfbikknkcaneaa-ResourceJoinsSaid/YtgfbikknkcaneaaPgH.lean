/- Walks of the parser's, the control flow's and the deparser's checks at the small programs. -/
import Derived.Test.YtgfbikknkcaneaaPgG
namespace Go.Proofs.Ytgfbikknkcaneaa
open Go.RowKit Go.Maps

theorem SmAt.states {w : World} {s : Sm} (h : SmAt w s) : w.cell? ⟨s.sg, s.so, none⟩ = some (.string ⟨#[115]⟩) ∧ w.cell? ⟨s.sg, s.so + 1, none⟩ = some (.slice s.eA 0 s.ec) ∧
    w.cell? ⟨s.sg, s.so + 2, none⟩ = some (.bool false) ∧ w.cell? ⟨s.sg, s.so + 3, none⟩ = some (.int .i64 0) ∧ w.cell? ⟨s.sg, s.so + 4, none⟩ = some (.int .i64 0) ∧
    w.cell? ⟨s.sg, s.so + 5, none⟩ = some (.slice s.cA 0 s.cc) ∧ w.cell? ⟨s.sg, s.so + 6, none⟩ = some (.int .i64 (-1)) := by
  obtain ⟨g, o, e, c0, c1, c2, c3, c4, c5, c6⟩ := StateD.at h.ok.states (show 0 < 1 by omega)
  simp only [Sm.prog, Option.some.injEq, Addr.mk.injEq, and_true] at e
  obtain ⟨rfl, rfl⟩ := e
  simp [Sm.prog, Sm.state, L.v] at c0 c1 c2 c3 c4 c5 c6
  exact ⟨c0, c1, c2, c3, c4, c5, c6⟩

set_option maxRecDepth 100000 in
theorem leads_ok (s : Sm) (w : World) :
    Calls Try.prog 86 #[s.prog.val, .int .i64 0, .int .i64 (-1)] w fun e w' => e = .returned (.bool true) ∧ Below w.heap.size w w' := by
  rw [Sm.val]
  go_enter Try.func86, Try.ntmps86
  go_wp2
  go_ret
  exact ⟨rfl, below1 _ _⟩

set_option maxRecDepth 100000 in
set_option maxHeartbeats 2000000 in
theorem checkState_ok (s : Sm) (w : World) (h : SmAt w s) :
    Calls Try.prog 63 #[s.prog.val, .int .i64 0] w fun e w' => e = .returned (.tuple #[.int .i64 0, .int .i64 0]) ∧ Below w.heap.size w w' := by
  have hca := @World.cell?_alloc_some
  obtain ⟨c0, c1, c2, c3, c4, c5, c6⟩ := h.states
  have HV := Lib.hid (Sm.val s)
  rw [Sm.val]
  go_enter Try.func63, Try.ntmps63
  go_wp2
  refine wp_loop_rounds 1 ?_
  rw [rounds_succ]
  go_wp2
  refine wp_loop_rounds 1 ?_
  rw [rounds_succ]
  go_wp2_with fail
  rw [← HV.out]
  refine (leads_ok s _).mono ?_
  rintro e w1 ⟨rfl, hb1⟩
  have HB1 := Lib.hid (below_step (below2 _ _ _) hb1)
  go_wp2
  go_ret2
  exact ⟨rfl, HB1.out⟩

theorem keyString : Keyed Try.prog 9 := string_keyed Try.underlying9
def sKey : Lit := .string [115]
def oneState : DataW Unit := (DataW.map []).put sKey (.lit (.bool true))

set_option maxRecDepth 100000 in
set_option maxHeartbeats 4000000 in
theorem parserCheck_ok (s : Sm) (w : World) (h : SmAt w s) :
    Calls Try.prog 49 #[s.prog.val] w fun e w' => e = .returned (.tuple #[.int .i64 0, .int .i64 0, .int .i64 0]) ∧ Below w.heap.size w w' := by
  have hmm := @run_makeMap Try.prog
  have HA := Lib.hid h
  obtain ⟨W, hW, hb, hp⟩ := sm_box w s 42
  have hsz : W.heap.size = w.heap.size + 1 := by rw [hW]; simp
  have HB := Lib.hid hb
  obtain ⟨c0, c1, c2, c3, c4, c5, c6⟩ := h.states
  obtain ⟨W1, hW1⟩ : ∃ W1, W1 = (W.alloc (.map #[] 0)).alloc (.cells #[.string ⟨#[115]⟩, .slice s.eA 0 s.ec, .bool false, .int .i64 0, .int .i64 0, .slice s.cA 0 s.cc, .int .i64 (-1)] 81) := ⟨_, rfl⟩
  have b1 : Below W.heap.size W W1 := by rw [hW1]; exact below2 _ _ _
  have hown : W1.ownsMap Try.prog 9 (plainElem (H := Unit) Try.prog 4) (w.heap.size + 1) 0 (.map []) := by rw [hW1, ← hsz]; exact (World.ownsMap_made _ _ _ _).alloc _
  have HOW := Lib.hid hown
  have hs : ∀ w', Below W1.heap.size W1 w' → w'.cell? ⟨w.heap.size + 2, 0, none⟩ = some (.string ⟨#[115]⟩) := fun w' hb => below_cell hb (by rw [hW1, show w.heap.size + 2 = (W.alloc (.map #[] 0)).heap.size by rw [World.size_alloc, hsz]]; simp)
  have hk : keyOf Try.prog 9 (.string ⟨#[115]⟩) = some sKey := Go.WideMaps.keyOf_string_mk Try.underlying9 (by decide)
  have hl0 := lookup_bool (t := 127) hown keyString Try.underlying127 Try.underlying4 (zeroBool _) hk false (by rfl)
  have HSZ := Lib.hid hsz
  have HV := Lib.hid (Sm.val s)
  have hca := @World.cell?_alloc_some
  have HK := Lib.hid hk
  have B1 := Below.refl W1.heap.size W1
  clear h hb hown hsz hk
  rw [Sm.val]
  go_enter Try.func49, Try.ntmps49
  go_wp2
  refine wp_loop_rounds 2 ?_
  rw [rounds_succ]
  go_wp2_with fail
  rw [← hW, ← hW1]
  clear hW hW1 hca c0 c1 c2 c3 c4 c5 c6
  refine (isIdent_any ⟨#[115]⟩ _ (by decide)).mono ?_
  rintro e w' ⟨rfl, rfl⟩
  rw [show identM (⟨#[115]⟩ : ByteArray).data.toList = true by decide +kernel]
  go_wp2_with (first
    | (at_mapUpdate; refine wpList_mapUpdate_own _ rfl _ _ _ 127 rfl 9 4 keyString Try.underlying127 (plainElem (H := Unit) Try.prog 4) (w.heap.size + 1) 0 (.map []) rfl HOW.out ?m1 _ _ sKey rfl rfl ?m2 (.lit (.bool true)) [] ?m3 ?_))
  case m1 => unfold maxLen; omega
  case m2 => exact HK.out
  case m3 => exact plainElem_bool Try.underlying4 true
  intro w2 hown2 hgrow2
  have b2 : Below W.heap.size W w2 := b1.grown hgrow2 b1.size fun j hj => by have := HSZ.out; simp at hj; omega
  clear hown2 hgrow2 hl0
  go_wp2_with fail
  rw [← HV.out]
  refine (checkState_ok s w2 (HA.out.below (below_step HB.out b2))).mono ?_
  rintro e w3 ⟨rfl, hb3⟩
  have HB3 := Lib.hid (below_step (below_step HB.out b2) hb3)
  go_wp2
  rw [rounds_succ]
  go_wp2
  go_ret3
  exact ⟨rfl, HB3.out⟩

theorem below_frozen {w w1 : World} {a : Addr} (h : Below w.heap.size w w1) (hc : w.frozen? a = false) (hl : a.block < w.heap.size) : w1.frozen? a = false := by
  have := h.block a.block hl
  simp only [World.frozen?] at *
  rw [this]; exact hc
theorem preorder_empty (A : Option Addr) (c : Nat) (f : Value) (w : World) :
    Calls Try.prog 66 #[.slice A 0 c, f] w fun e w' => e = .returned (.bool true) ∧ w = w' := by
  go_enter Try.func66, Try.ntmps66
  go_wp2
  refine wp_loop_rounds 1 ?_
  rw [rounds_succ]
  go_wp2
  go_ret
  exact ⟨rfl, rfl⟩
theorem count_empty (A : Option Addr) (c : Nat) (w : World) :
    Calls Try.prog 64 #[.slice A 0 c] w fun e w' => e = .returned (.int .i64 0) ∧ Below w.heap.size w w' := by
  have hmf : ∀ (fn : Fn) (first cap : Array Value) (w : World), (Instr.makeFunc fn first cap).run Try.prog w = .ok (.func fn first cap) w := fun _ _ _ _ => rfl
  go_enter Try.func64, Try.ntmps64
  go_wp2_with fail
  refine (preorder_empty _ _ _ _).mono ?_
  rintro e w' ⟨rfl, rfl⟩
  go_wp2
  go_ret
  exact ⟨rfl, below1 _ _⟩
theorem nesting_empty (A : Option Addr) (c : Nat) (w : World) :
    Calls Try.prog 65 #[.slice A 0 c] w fun e w' => e = .returned (.int .i64 0) ∧ w = w' := by
  go_enter Try.func65, Try.ntmps65
  go_wp2
  go_ret
  exact ⟨rfl, rfl⟩

set_option maxRecDepth 100000 in
set_option maxHeartbeats 2000000 in
theorem controlCheck_ok (s : Sm) (w : World) :
    Calls Try.prog 50 #[s.prog.val] w fun e w' => e = .returned (.tuple #[.int .i64 0, .int .i64 0]) ∧ Below w.heap.size w w' := by
  have hmf : ∀ (fn : Fn) (first cap : Array Value) (w : World), (Instr.makeFunc fn first cap).run Try.prog w = .ok (.func fn first cap) w := fun _ _ _ _ => rfl
  obtain ⟨W, hW, hb, hp, hq⟩ := sm_box2 w s 42 #[.int .i64 0] 51
  have HB := Lib.hid hb
  have HF : Hid (W.frozen? ⟨w.heap.size + 1, 0, none⟩ = false ∧ w.heap.size + 1 < W.heap.size) := Lib.hid (by rw [hW]; exact ⟨by simp, by simp⟩)
  clear hb
  rw [Sm.val]
  go_enter Try.func50, Try.ntmps50
  go_wp2_with fail
  rw [← hW]
  clear hW
  refine (count_empty _ _ _).mono ?_
  rintro e w1 ⟨rfl, hb1⟩
  go_wp2_with fail
  refine (nesting_empty _ _ _).mono ?_
  rintro e w' ⟨rfl, rfl⟩
  have hp1 := hp w1 hb1
  have hq1 := fun j => hq w1 j hb1
  have hz1 : w1.cell? ⟨w.heap.size + 1, 0, none⟩ = some (.int .i64 0) := hq1 0 (by decide)
  have hca := @World.cell?_alloc_some
  have hfz : ∀ o1 o2, ((w1.alloc o1).alloc o2).frozen? ⟨w.heap.size + 1, 0, none⟩ = false := fun o1 o2 => below_frozen (below_step hb1 (below2 _ _ _)) HF.out.1 HF.out.2
  have hz2 : ∀ o1 o2, ((w1.alloc o1).alloc o2).cell? ⟨w.heap.size + 1, 0, none⟩ = some (.int .i64 0) := fun o1 o2 => below_cell (below2 _ _ _) hz1
  have HB1 := Lib.hid (below_step HB.out hb1)
  clear hq1
  go_wp2_with fail
  refine (preorder_empty _ _ _ _).mono ?_
  rintro e w' ⟨rfl, rfl⟩
  go_wp2
  refine bodyPost_ret (v := .tuple #[.int .i64 0, .int .i64 0]) (by simp [results, Try.results50, go_sem, hz2]) rfl ⟨rfl, (below_alloc (below_alloc HB1.out _) _).setCell (Nat.le_succ _) _⟩

set_option maxRecDepth 100000 in
theorem deparserCheck_ok (s : Sm) (w : World) :
    Calls Try.prog 51 #[s.prog.val] w fun e w' => e = .returned (.tuple #[.int .i64 0, .int .i64 0]) ∧ Below w.heap.size w w' := by
  rw [Sm.val]
  go_enter Try.func51, Try.ntmps51
  go_wp2
  refine wp_loop_rounds 1 ?_
  rw [rounds_succ]
  go_wp2
  go_ret2
  exact ⟨rfl, below1 _ _⟩

set_option maxRecDepth 100000 in
set_option maxHeartbeats 2000000 in
theorem checkFlow_ok (s : Sm) (w : World) (h : SmAt w s) :
    Calls Try.prog 27 #[s.prog.val] w fun e w' => e = .returned (.tuple #[]) ∧ Below w.heap.size w w' := by
  have HA := Lib.hid h
  obtain ⟨W, hW, hb, hp⟩ := sm_box w s 42
  have HB := Lib.hid hb
  have HV := Lib.hid (Sm.val s)
  clear h hb
  rw [Sm.val]
  go_enter Try.func27, Try.ntmps27
  go_wp2_with fail
  rw [← hW]
  clear hW
  have hk := parserCheck_ok s W (HA.out.below HB.out)
  rw [HV.out] at hk
  refine hk.mono ?_
  clear hk
  rintro e w1 ⟨rfl, hb1⟩
  go_wp2_with fail
  refine (require_ok _ _ _ _).mono ?_
  rintro e w' ⟨rfl, rfl⟩
  go_wp2_with fail
  have hk := controlCheck_ok s w1
  rw [HV.out] at hk
  refine hk.mono ?_
  clear hk
  rintro e w2 ⟨rfl, hb2⟩
  have hb2' := below_step hb1 hb2
  go_wp2_with fail
  refine (require_ok _ _ _ _).mono ?_
  rintro e w' ⟨rfl, rfl⟩
  go_wp2_with fail
  have hk := deparserCheck_ok s w2
  rw [HV.out] at hk
  refine hk.mono ?_
  clear hk
  rintro e w3 ⟨rfl, hb3⟩
  have HB3 := Lib.hid (below_step HB.out (below_step hb2' hb3))
  go_wp2_with fail
  refine (require_ok _ _ _ _).mono ?_
  rintro e w' ⟨rfl, rfl⟩
  go_wp2
  go_end0
  exact ⟨rfl, HB3.out⟩
end Go.Proofs.Ytgfbikknkcaneaa

