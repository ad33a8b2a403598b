/- The walks of the clones of control nodes and of program.Clone. No condition but that the program lies in memory, with at most a hundred elements a list. The walks of the reference's Count, Nesting and Preorder of control nodes. No condition but that the nodes lie in memory, at most 90000 of them. The walks of the reference's check of control nodes. No condition but that the program lies in memory, at most 90000 nodes. -/
import Derived.Test.YtgfbikknkcaneaaGreatBaC
import Derived.Test.YtgfbikknkcaneaaGreatHd
import Derived.Deep.RegionHeld3
import Derived.Test.YtgfbikknkcaneaaGreatHh
import Derived.Test.YtgfbikknkcaneaaGreatCkW
import Derived.WalkLawsBesides
namespace Go.Proofs.YtgfbikknkcaneaaGreat
open Go.RowKit

theorem pres_of {l : List CtlD} {y z : CtlD} (hy : y ∈ l) (hz : z ∈ preM y) : z ∈ presM l := by
  induction l with
  | nil => cases hy
  | cons x l ih =>
    rw [presM, List.mem_append]
    rcases List.mem_cons.1 hy with rfl | hy
    · exact .inl hz
    · exact .inr (ih hy)
theorem pres_th {l : List CtlD} {y : CtlD} (hy : y ∈ l) : (presM y.th.l).length < (presM l).length ∧ (∀ z ∈ presM y.th.l, z ∈ presM l) ∧ (presM y.el.l).length < (presM l).length ∧ (∀ z ∈ presM y.el.l, z ∈ presM l) ∧ y ∈ presM l := by
  have h1 := sum_mem (f := fun x => (preM x).length) hy
  rw [← pres_sum, preM_eq, List.length_cons, List.length_append] at h1
  refine ⟨by omega, fun z hz => pres_of hy ?_, by omega, fun z hz => pres_of hy ?_, pres_of hy ?_⟩
  all_goals rw [preM_eq]
  · exact List.mem_cons_of_mem _ (List.mem_append_left _ hz)
  · exact List.mem_cons_of_mem _ (List.mem_append_right _ hz)
  · exact List.mem_cons_self ..
theorem pres_le : ∀ (l : List CtlD), l.length ≤ (presM l).length
  | [] => Nat.le_refl _
  | x :: l => by
    have := pres_le l
    rw [presM, preM_eq, List.length_append, List.length_cons, List.length_cons]
    omega

theorem end_ctl {y : CtlD} {w W w1 : World} (HS : Hid (W.heap.size = w.heap.size + 2)) (hb0 : Blk w1 (w.heap.size + 1) 106 #[.int .i64 0, .int .i64 0, .slice none 0 0, .slice none 0 0, .slice none 0 0]) (HB : Below W.heap.size W w1) (HW : Hid (Below w.heap.size w W)) {A0 : Option Addr} {c0 : Nat} (HO0 : Hid (Own w1 (fun g => W.heap.size ≤ g) 131 3 NodeD.cells ⟨y.cond.l, A0, c0⟩))
    {x1 : L CtlD} (HE1 : Hid (x1.l.map CtlD.bare = y.th.l.map CtlD.bare)) (HO1 : Hid (Own w1 (fun g => W.heap.size ≤ g) 106 5 CtlD.cells x1 ∧ ∀ s ∈ x1.l, CtlOwn w1 (fun g => W.heap.size ≤ g) s))
    {x2 : L CtlD} (HE2 : Hid (x2.l.map CtlD.bare = y.el.l.map CtlD.bare)) (HO2 : Hid (Own w1 (fun g => W.heap.size ≤ g) 106 5 CtlD.cells x2 ∧ ∀ s ∈ x2.l, CtlOwn w1 (fun g => W.heap.size ≤ g) s)) :
    Blk ((((((((w1.setCell ⟨w.heap.size, 2, none⟩ (.slice A0 y.cond.l.length c0)).setCell ⟨w.heap.size, 3, none⟩ (.slice x1.A x1.l.length x1.c)).setCell ⟨w.heap.size, 4, none⟩ (.slice x2.A x2.l.length x2.c)).setCell ⟨w.heap.size + 1, 0, none⟩ (.int .i64 y.kind)).setCell ⟨w.heap.size + 1, 1, none⟩ (.int .i64 y.table)).setCell ⟨w.heap.size + 1, 2, none⟩ (.slice A0 y.cond.l.length c0)).setCell ⟨w.heap.size + 1, 3, none⟩ (.slice x1.A x1.l.length x1.c)).setCell ⟨w.heap.size + 1, 4, none⟩ (.slice x2.A x2.l.length x2.c)) (w.heap.size + 1) 106 #[.int .i64 y.kind, .int .i64 y.table, .slice A0 y.cond.l.length c0, .slice x1.A x1.l.length x1.c, .slice x2.A x2.l.length x2.c] ∧
    ∃ y' : CtlD, Ending.returned (.agg #[.int .i64 y.kind, .int .i64 y.table, .slice A0 y.cond.l.length c0, .slice x1.A x1.l.length x1.c, .slice x2.A x2.l.length x2.c]) = .returned (.agg #[.int .i64 y'.kind, .int .i64 y'.table, .slice y'.cond.A y'.cond.l.length y'.cond.c, .slice y'.th.A y'.th.l.length y'.th.c, .slice y'.el.A y'.el.l.length y'.el.c]) ∧ y'.bare = y.bare ∧ CtlOwn ((((((((w1.setCell ⟨w.heap.size, 2, none⟩ (.slice A0 y.cond.l.length c0)).setCell ⟨w.heap.size, 3, none⟩ (.slice x1.A x1.l.length x1.c)).setCell ⟨w.heap.size, 4, none⟩ (.slice x2.A x2.l.length x2.c)).setCell ⟨w.heap.size + 1, 0, none⟩ (.int .i64 y.kind)).setCell ⟨w.heap.size + 1, 1, none⟩ (.int .i64 y.table)).setCell ⟨w.heap.size + 1, 2, none⟩ (.slice A0 y.cond.l.length c0)).setCell ⟨w.heap.size + 1, 3, none⟩ (.slice x1.A x1.l.length x1.c)).setCell ⟨w.heap.size + 1, 4, none⟩ (.slice x2.A x2.l.length x2.c)) (fun g => w.heap.size ≤ g) y' ∧ Below w.heap.size w ((((((((w1.setCell ⟨w.heap.size, 2, none⟩ (.slice A0 y.cond.l.length c0)).setCell ⟨w.heap.size, 3, none⟩ (.slice x1.A x1.l.length x1.c)).setCell ⟨w.heap.size, 4, none⟩ (.slice x2.A x2.l.length x2.c)).setCell ⟨w.heap.size + 1, 0, none⟩ (.int .i64 y.kind)).setCell ⟨w.heap.size + 1, 1, none⟩ (.int .i64 y.table)).setCell ⟨w.heap.size + 1, 2, none⟩ (.slice A0 y.cond.l.length c0)).setCell ⟨w.heap.size + 1, 3, none⟩ (.slice x1.A x1.l.length x1.c)).setCell ⟨w.heap.size + 1, 4, none⟩ (.slice x2.A x2.l.length x2.c)) := by
  have hM : Moves (fun g => W.heap.size ≤ g) w1 (fun g => w.heap.size ≤ g) ((((((((w1.setCell ⟨w.heap.size, 2, none⟩ (.slice A0 y.cond.l.length c0)).setCell ⟨w.heap.size, 3, none⟩ (.slice x1.A x1.l.length x1.c)).setCell ⟨w.heap.size, 4, none⟩ (.slice x2.A x2.l.length x2.c)).setCell ⟨w.heap.size + 1, 0, none⟩ (.int .i64 y.kind)).setCell ⟨w.heap.size + 1, 1, none⟩ (.int .i64 y.table)).setCell ⟨w.heap.size + 1, 2, none⟩ (.slice A0 y.cond.l.length c0)).setCell ⟨w.heap.size + 1, 3, none⟩ (.slice x1.A x1.l.length x1.c)).setCell ⟨w.heap.size + 1, 4, none⟩ (.slice x2.A x2.l.length x2.c)) := by
    intro g hg hF
    have hF' : W.heap.size ≤ g := hF
    have := HS.out
    refine ⟨by show w.heap.size ≤ g; omega, ?_⟩
    repeat rw [Below.heap_setCell _ _ _ g (by first | (show g ≠ w.heap.size; omega) | (show g ≠ w.heap.size + 1; omega))]
  refine ⟨((((((((hb0.far (p := ⟨w.heap.size, 2, none⟩) (by simp) (.slice A0 y.cond.l.length c0)).far (p := ⟨w.heap.size, 3, none⟩) (by simp) (.slice x1.A x1.l.length x1.c)).far (p := ⟨w.heap.size, 4, none⟩) (by simp) (.slice x2.A x2.l.length x2.c)).set_ 0 (.int .i64 y.kind)).set_ 1 (.int .i64 y.table)).set_ 2 (.slice A0 y.cond.l.length c0)).set_ 3 (.slice x1.A x1.l.length x1.c)).set_ 4 (.slice x2.A x2.l.length x2.c)), .mk y.kind y.table ⟨y.cond.l, A0, c0⟩ x1.l x2.l x1.A x2.A x1.c x2.c, rfl, ?_, ?_, (by (repeat refine Below.setCell ?_ (by first | exact Nat.le_refl _ | exact Nat.le_succ _) _); exact below_step HW.out HB)⟩
  · rw [ctl_bare, ctl_bare y]
    show CtlP.mk y.kind y.table y.cond.l (x1.l.map CtlD.bare) (x2.l.map CtlD.bare) = _
    rw [HE1.out, HE2.out]
  · rw [ctlOwn_iff]
    exact ⟨HO0.out.moves hM, HO1.out.1.moves hM, HO2.out.1.moves hM, fun s hs => CtlOwn.moves hM (HO1.out.2 s hs), fun s hs => CtlOwn.moves hM (HO2.out.2 s hs)⟩
theorem info_ctl : (Tryz.prog.info? 106).map (fun i => (i.zero, i.size, i.bytes)) = some (some (.agg #[.int .i64 0, .int .i64 0, .slice none 0 0, .slice none 0 0, .slice none 0 0]), 5, 88) := by kernel_rfl
set_option maxRecDepth 100000 in
set_option maxHeartbeats 8000000 in
theorem cloneNode_of (y : CtlD) (w : World) (h : CtlOk w y) (hm : y.cond.l.length ≤ 100)
    (ht : ∀ u, Below w.heap.size w u → Calls Tryz.prog 66 #[.slice y.th.A y.th.l.length y.th.c, .func (.func 67) #[] #[]] u fun e w2 => ∃ x' : L CtlD, e = .returned (.slice x'.A x'.l.length x'.c) ∧ x'.l.map CtlD.bare = y.th.l.map CtlD.bare ∧ (Own w2 (fun g => u.heap.size ≤ g) 106 5 CtlD.cells x' ∧ ∀ s ∈ x'.l, CtlOwn w2 (fun g => u.heap.size ≤ g) s) ∧ Below u.heap.size u w2)
    (he : ∀ u, Below w.heap.size w u → Calls Tryz.prog 66 #[.slice y.el.A y.el.l.length y.el.c, .func (.func 67) #[] #[]] u fun e w2 => ∃ x' : L CtlD, e = .returned (.slice x'.A x'.l.length x'.c) ∧ x'.l.map CtlD.bare = y.el.l.map CtlD.bare ∧ (Own w2 (fun g => u.heap.size ≤ g) 106 5 CtlD.cells x' ∧ ∀ s ∈ x'.l, CtlOwn w2 (fun g => u.heap.size ≤ g) s) ∧ Below u.heap.size u w2) :
    Calls Tryz.prog 67 #[.agg #[.int .i64 y.kind, .int .i64 y.table, .slice y.cond.A y.cond.l.length y.cond.c, .slice y.th.A y.th.l.length y.th.c, .slice y.el.A y.el.l.length y.el.c]] w fun e w' => ∃ y' : CtlD, e = .returned (.agg #[.int .i64 y'.kind, .int .i64 y'.table, .slice y'.cond.A y'.cond.l.length y'.cond.c, .slice y'.th.A y'.th.l.length y'.th.c, .slice y'.el.A y'.el.l.length y'.el.c]) ∧ y'.bare = y.bare ∧ CtlOwn w' (fun g => w.heap.size ≤ g) y' ∧ Below w.heap.size w w' := by
  obtain ⟨W, hW, hW1, HB, hS, hpq⟩ := boxC w #[.int .i64 y.kind, .int .i64 y.table, .slice y.cond.A y.cond.l.length y.cond.c, .slice y.th.A y.th.l.length y.th.c, .slice y.el.A y.el.l.length y.el.c] 106 #[.int .i64 0, .int .i64 0, .slice none 0 0, .slice none 0 0, .slice none 0 0] 106
  have HC0 : Hid (∀ u, Below W.heap.size W u → Calls Tryz.prog 134 #[.slice y.cond.A y.cond.l.length y.cond.c] u fun e w2 => ∃ A c, e = .returned (.slice A y.cond.l.length c) ∧ Own w2 (fun g => W.heap.size ≤ g) 131 3 NodeD.cells ⟨y.cond.l, A, c⟩ ∧ Below u.heap.size u w2) :=
    Lib.hid (fun u hb => (clone_node y.cond u ((ctl_parts h).1.below (below_step hW1 hb) (Nat.le_refl _)) hm).mono fun e w2 ⟨A, c, h1, h2, h3⟩ => ⟨A, c, h1, h2.moves (Moves.mono fun g _ h => Nat.le_trans hb.size h), h3⟩)
  have HC1 : Hid (∀ u, Below W.heap.size W u → Calls Tryz.prog 66 #[.slice y.th.A y.th.l.length y.th.c, .func (.func 67) #[] #[]] u fun e w2 => ∃ x' : L CtlD, e = .returned (.slice x'.A x'.l.length x'.c) ∧ x'.l.map CtlD.bare = y.th.l.map CtlD.bare ∧ (Own w2 (fun g => W.heap.size ≤ g) 106 5 CtlD.cells x' ∧ ∀ s ∈ x'.l, CtlOwn w2 (fun g => W.heap.size ≤ g) s) ∧ Below u.heap.size u w2) :=
    Lib.hid (fun u hb => (ht u (below_step hW1 hb)).mono fun e w2 ⟨x2, h1, h2, h3, h4⟩ => ⟨x2, h1, h2, ⟨h3.1.moves (Moves.mono fun g _ h => Nat.le_trans hb.size h), fun s hs => CtlOwn.moves (Moves.mono fun g _ h => Nat.le_trans hb.size h) (h3.2 s hs)⟩, h4⟩)
  have HC2 : Hid (∀ u, Below W.heap.size W u → Calls Tryz.prog 66 #[.slice y.el.A y.el.l.length y.el.c, .func (.func 67) #[] #[]] u fun e w2 => ∃ x' : L CtlD, e = .returned (.slice x'.A x'.l.length x'.c) ∧ x'.l.map CtlD.bare = y.el.l.map CtlD.bare ∧ (Own w2 (fun g => W.heap.size ≤ g) 106 5 CtlD.cells x' ∧ ∀ s ∈ x'.l, CtlOwn w2 (fun g => W.heap.size ≤ g) s) ∧ Below u.heap.size u w2) :=
    Lib.hid (fun u hb => (he u (below_step hW1 hb)).mono fun e w2 ⟨x2, h1, h2, h3, h4⟩ => ⟨x2, h1, h2, ⟨h3.1.moves (Moves.mono fun g _ h => Nat.le_trans hb.size h), fun s hs => CtlOwn.moves (Moves.mono fun g _ h => Nat.le_trans hb.size h) (h3.2 s hs)⟩, h4⟩)
  have HQ := Lib.hid (fun w' h => (hpq w' h).2.2.2.2)
  have hp := fun w' h => (⟨(hpq w' h).1, (hpq w' h).2.1, (hpq w' h).2.2.1, (hpq w' h).2.2.2.1⟩ : _ ∧ _ ∧ _ ∧ _)
  clear hpq
  have HW := Lib.hid hW1
  have HS := Lib.hid hS
  clear h hm hW1 hS ht he
  go_enter Tryz.func67, Tryz.ntmps67
  go_upto_region 1 with fail
  rw [← hW]
  clear hW
  go_wp2
  go_region_law (first
    | (go_simp; go_at_call 134; with_reducible (refine (HC0.out _ (by first | exact HB | exact HB.drew)).mono ?_); rintro e w1 ⟨A0, c0, rfl, hO, hb1⟩; have HO0 := Lib.hid hO; replace HB := below_step (by first | exact HB | exact HB.drew) hb1; clear hb1 hO)
    | (go_simp; go_at_call 66; with_reducible (refine (HC1.out _ (by first | exact HB | exact HB.drew)).mono ?_); clear HC1; rintro e w1 ⟨x1, rfl, hE, hO, hb1⟩; have HE1 := Lib.hid hE; have HO1 := Lib.hid hO; replace HO0 := Lib.hid (HO0.out.moves (Moves.below hb1 (Nat.le_refl _))); replace HB := below_step (by first | exact HB | exact HB.drew) hb1; clear hb1 hO hE)
    | (go_simp; go_at_call 66; with_reducible (refine (HC2.out _ (by first | exact HB | exact HB.drew)).mono ?_); rintro e w1 ⟨x2, rfl, hE, hO, hb1⟩; have HE2 := Lib.hid hE; have HO2 := Lib.hid hO; replace HO0 := Lib.hid (HO0.out.moves (Moves.below hb1 (Nat.le_refl _))); replace HO1 := Lib.hid (⟨HO1.out.1.moves (Moves.below hb1 (Nat.le_refl _)), fun s hs => CtlOwn.moves (Moves.below hb1 (Nat.le_refl _)) (HO1.out.2 s hs)⟩ : _ ∧ _); replace HB := below_step (by first | exact HB | exact HB.drew) hb1; clear hb1 hO hE))
  all_goals go_wp2
  all_goals refine bodyPost_ret (v := .agg #[.int .i64 y.kind, .int .i64 y.table, .slice A0 y.cond.l.length c0, .slice x1.A x1.l.length x1.c, .slice x2.A x2.l.length x2.c]) ?_ rfl ?_
  all_goals first
    | exact results_cell_row (fn := Tryz.f67) (p := 2) (ty := 106) rfl _ _ (w.heap.size + 1) 106 #[.int .i64 y.kind, .int .i64 y.table, .slice A0 y.cond.l.length c0, .slice x1.A x1.l.length x1.c, .slice x2.A x2.l.length x2.c] (0, 0) _ rfl (end_ctl HS (HQ.out _ HB) HB HW HO0 HE1 HO1 HE2 HO2).1 Tryz.underlying106 rfl (by kernel_rfl)
    | exact (end_ctl HS (HQ.out _ HB) HB HW HO0 HE1 HO1 HE2 HO2).2

set_option maxRecDepth 100000 in
set_option maxHeartbeats 8000000 in
theorem each_ctl : ∀ (N : Nat) (x : L CtlD) (w : World), N ≤ 101 → (presM x.l).length < N → (∀ z ∈ presM x.l, z.cond.l.length ≤ 100) → LOk w 5 CtlD.cells x → (∀ y ∈ x.l, CtlOk w y) →
    Calls Tryz.prog 66 #[x.v, .func (.func 67) #[] #[]] w fun e w' => ∃ x' : L CtlD, e = .returned (.slice x'.A x'.l.length x'.c) ∧ x'.l.map CtlD.bare = x.l.map CtlD.bare ∧
      (Own w' (fun g => w.heap.size ≤ g) 106 5 CtlD.cells x' ∧ ∀ s ∈ x'.l, CtlOwn w' (fun g => w.heap.size ≤ g) s) ∧ Below w.heap.size w w'
  | 0, _, _, _, h, _, _, _ => absurd h (Nat.not_lt_zero _)
  | N + 1, x, w, hN, hlt0, hcond, h, he => by
    have IH := Lib.hid (each_ctl N)
    obtain ⟨l, A0, c0⟩ := x
    have HX := Lib.hid h
    have HE := Lib.hid he
    have HC := Lib.hid hcond
    have HN := Lib.hid (And.intro hN hlt0)
    have hm : l.length ≤ 100 := Nat.le_trans (pres_le l) (by simp only at hlt0; omega)
    clear h he hcond hN hlt0
    simp only [L.v] at *
    obtain ⟨i0, hi, hz0, hz1, hz2⟩ := info_parts info_ctl
    go_enter Tryz.func66, Tryz.ntmps66
    go_wp2
    go_loopw [5, 7, 10] (fun o xv iv wr => ∃ (k : Nat) (L1 : List CtlD) (A : Option Addr) (c : Nat), k ≤ l.length ∧ iv = .int .i64 k ∧ o = .slice A k c ∧ Hid (L1.length = k ∧ L1.map CtlD.bare = (l.take k).map CtlD.bare ∧ wr.ownsRow w.heap.size 106 5 (.slice A k c) k (L1.flatMap CtlD.cells) ∧
        ∀ y ∈ L1, CtlOwn wr (fun g => w.heap.size ≤ g ∧ (Value.slice A k c).ownBlock ≠ some g) y) ∧ Below w.heap.size w wr)
      (fun _ _ i _ => l.length - (intOf i).toNat)
    case atStart => exact ⟨0, [], none, 0, Nat.zero_le _, rfl, rfl, Lib.hid ⟨rfl, rfl, World.ownsRow_nil _ _ _ _, fun y hy => by cases hy⟩, Below.refl _ _⟩
    case round =>
      obtain ⟨k, L1, A, c, hk, rfl, rfl, HL, hbel⟩ := hrel
      by_cases hlt : k < l.length
      · obtain ⟨g, of, rfl, d0, d1, d2, d3, d4⟩ := CtlD.at (HX.out.below hbel (Nat.le_refl _)) hlt
        simp only at d0 d1 d2 d3 d4
        have HT : Hid ((l.take (k + 1)).map CtlD.bare = (l.take k).map CtlD.bare ++ [l[k].bare]) := Lib.hid (by rw [List.take_succ_eq_append_getElem hlt, List.map_append]; rfl)
        have HEk : Hid (CtlOk w l[k] ∧ l[k].cond.l.length ≤ 100 ∧ (∀ u, Below w.heap.size w u → Calls Tryz.prog 66 #[.slice l[k].th.A l[k].th.l.length l[k].th.c, .func (.func 67) #[] #[]] u fun e w2 => ∃ x' : L CtlD, e = .returned (.slice x'.A x'.l.length x'.c) ∧ x'.l.map CtlD.bare = l[k].th.l.map CtlD.bare ∧ (Own w2 (fun g => u.heap.size ≤ g) 106 5 CtlD.cells x' ∧ ∀ s ∈ x'.l, CtlOwn w2 (fun g => u.heap.size ≤ g) s) ∧ Below u.heap.size u w2) ∧ ∀ u, Below w.heap.size w u → Calls Tryz.prog 66 #[.slice l[k].el.A l[k].el.l.length l[k].el.c, .func (.func 67) #[] #[]] u fun e w2 => ∃ x' : L CtlD, e = .returned (.slice x'.A x'.l.length x'.c) ∧ x'.l.map CtlD.bare = l[k].el.l.map CtlD.bare ∧ (Own w2 (fun g => u.heap.size ≤ g) 106 5 CtlD.cells x' ∧ ∀ s ∈ x'.l, CtlOwn w2 (fun g => u.heap.size ≤ g) s) ∧ Below u.heap.size u w2) := Lib.hid (by
          have hm := List.getElem_mem hlt
          have hp := pres_th hm
          have h1 := HN.out
          try simp only at h1
          have ho := ctl_parts (HE.out _ hm)
          refine ⟨HE.out _ hm, HC.out _ hp.2.2.2.2, fun u hb => ?_, fun u hb => ?_⟩
          · exact IH.out l[k].th u (by omega) (by omega) (fun z hz => HC.out z (hp.2.1 z hz)) (ho.2.1.below hb (Nat.le_refl _)) (fun z hz => ctls_mem (CtlsOk.below hb ho.2.2.2.1) hz)
          · exact IH.out l[k].el u (by omega) (by omega) (fun z hz => HC.out z (hp.2.2.2.1 z hz)) (ho.2.2.1.below hb (Nat.le_refl _)) (fun z hz => ctls_mem (CtlsOk.below hb ho.2.2.2.2) hz))
        generalize l[k] = y at *
        have HB := Lib.hid hbel
        clear hbel
        go_wp2_with fail
        refine (cloneNode_of y _ (CtlOk.below (below_alloc HB.out _) HEk.out.1) HEk.out.2.1 (fun u hb => HEk.out.2.2.1 u (below_step (below_alloc HB.out _) hb)) (fun u hb => HEk.out.2.2.2 u (below_step (below_alloc HB.out _) hb))).mono ?_
        rintro e w1 ⟨y', rfl, hbare, hyo, hb1⟩
        have HY : Hid (y'.bare = y.bare ∧ CtlOwn w1 (fun g => wr.heap.size ≤ g) y') := Lib.hid ⟨hbare, CtlOwn.moves (Moves.mono fun g _ h => by simp at h; omega) hyo⟩
        have hb2 : Below wr.heap.size wr w1 := (below_alloc (Below.refl _ _) _).trans (hb1.mono (below_alloc (Below.refl _ _) _).size)
        have hown1 := own_below HL.out.2.2.1 hb2
        have hbel1 := HB.out.trans (hb2.mono HB.out.size)
        have HB2 := Lib.hid hb2
        clear hbare hyo hb1 hb2
        go_wp2_with (first
          | (at_builtin; refine wpList_append_own_at _ rfl _ _ 28 rfl w.heap.size 106 i0 _ 5 88 Tryz.underlying28 hi hz0 hz1 hz2 rfl (by decide) _ _ _ rfl (hown1.alloc _) ⟨w1.heap.size, 0, none⟩ 1 1 [.int .i64 y'.kind, .int .i64 y'.table, .slice y'.cond.A y'.cond.l.length y'.cond.c, .slice y'.th.A y'.th.l.length y'.th.c, .slice y'.el.A y'.el.l.length y'.el.c] rfl rfl ?c1 ?c2 ?c3 ?c4 ?c5 ?_))
        case c1 => exact new_cells _ _ _
        case c2 => intro u hu; simp only [List.mem_cons, List.not_mem_nil, or_false] at hu; rcases hu with rfl | rfl | rfl | rfl | rfl <;> rfl
        case c3 => unfold maxLen; omega
        case c4 => omega
        case c5 => have := hbel1.size; simp; omega
        intro v' w2 hown2 hgrow _ hat
        have hbel2 : Below w.heap.size w w2 := (hbel1.alloc hbel1.size _).grown hgrow (hbel1.alloc hbel1.size _).size fun j hj => (hown1.lt j hj).1
        obtain ⟨A', c', rfl⟩ : ∃ A' c', v' = .slice A' (k + 1) c' := by
          rcases hown2.2 with ⟨hv, h0⟩ | ⟨g', cap, cur, hv, _, _, _⟩
          · omega
          · exact ⟨_, _, hv⟩
        have hes := elem_step HL.out.2.2.1 HB2.out HB.out.size hgrow hat
        have HL2 : Hid ((L1 ++ [y']).length = k + 1 ∧ (L1 ++ [y']).map CtlD.bare = (l.take (k + 1)).map CtlD.bare ∧ w2.ownsRow w.heap.size 106 5 (.slice A' (k + 1) c') (k + 1) ((L1 ++ [y']).flatMap CtlD.cells) ∧
            ∀ z ∈ L1 ++ [y'], CtlOwn w2 (fun g => w.heap.size ≤ g ∧ (Value.slice A' (k + 1) c').ownBlock ≠ some g) z) := Lib.hid (by
          refine ⟨by rw [List.length_append, HL.out.1]; rfl, by rw [List.map_append, HL.out.2.1, HT.out, ← HY.out.1]; rfl, ?_, fun z hz => ?_⟩
          · rw [List.flatMap_append]
            simpa [CtlD.cells] using hown2
          · rcases List.mem_append.1 hz with hz | hz
            · exact CtlOwn.moves hes.1 (HL.out.2.2.2 z hz)
            · rw [List.mem_singleton] at hz
              subst hz
              exact CtlOwn.moves hes.2 HY.out.2)
        generalize L1 ++ [y'] = L2 at HL2
        clear hes hat hgrow hown1 hown2 HL HY HT HEk
        go_wp2
        go_roundw
        case rel => exact ⟨k + 1, L2, A', c', by omega, by go_num, rfl, HL2, hbel2⟩
        case measure => simp [intOf]; omega
      · have hk' : k = l.length := by omega
        subst hk'
        have HR : Hid (∃ x' : L CtlD, (.slice A l.length c : Value) = .slice x'.A x'.l.length x'.c ∧ x'.l.map CtlD.bare = l.map CtlD.bare ∧ (Own wr (fun g => w.heap.size ≤ g) 106 5 CtlD.cells x' ∧ ∀ s ∈ x'.l, CtlOwn wr (fun g => w.heap.size ≤ g) s)) := Lib.hid (by
          have h := HL.out
          rw [List.take_length] at h
          refine ⟨⟨L1, A, c⟩, by rw [h.1], h.2.1, ⟨?_, fun g hg => ?_⟩, fun s hs => CtlOwn.moves (Moves.mono fun g _ h => h.1) (h.2.2.2 s hs)⟩
          · simp only [L.v, h.1]
            exact ownsRow_zero h.2.2.1
          · simp only [L.v, h.1] at hg
            exact (own_lt h.2.2.1 g hg).1)
        clear HL
        go_wp2
        go_ret
        obtain ⟨x', h1, h2, h3⟩ := HR.out
        exact ⟨x', by rw [h1]; rfl, h2, h3, hbel⟩
end Go.Proofs.YtgfbikknkcaneaaGreat
namespace Go.Proofs.YtgfbikknkcaneaaGreat
open Go.RowKit

theorem pres_take {l : List CtlD} {k : Nat} (h : k < l.length) : presM (l.take (k + 1)) = presM (l.take k) ++ l[k] :: (presM l[k].th.l ++ presM l[k].el.l) := by
  rw [take_snoc l k h, presM_snoc]
theorem pres_part (l : List CtlD) (k : Nat) : (presM (l.take k)).length ≤ (presM l).length := by
  have := congrArg List.length (presM_append (l.take k) (l.drop k))
  rw [List.take_append_drop, List.length_append] at this
  omega
set_option maxRecDepth 100000 in
set_option maxHeartbeats 8000000 in
theorem rcount_any : ∀ (N : Nat) (c : L CtlD) (w : World), (presM c.l).length < N → (presM c.l).length ≤ 90000 → LOk w 5 CtlD.cells c → CtlsOk w c.l →
    Calls Tryz.prog 157 #[.slice c.A c.l.length c.c] w fun e w' => e = .returned (.int .i64 ((presM c.l).length : Int)) ∧ Below w.heap.size w w'
  | 0, _, _, h, _, _, _ => absurd h (Nat.not_lt_zero _)
  | m + 1, ⟨cl, cA, cc⟩, w, hm, hN, hc, hcs => by
    have IH := Lib.hid (rcount_any m)
    have HC := Lib.hid hc
    have HCS := Lib.hid hcs
    have HM := Lib.hid hm
    have HN := Lib.hid hN
    have hlen := hc.1
    unfold maxLen at hlen
    simp only at hlen HCS HM HN
    clear hc hcs hm hN
    go_enter Tryz.func157, Tryz.ntmps157
    go_wp2
    go_loopw [3, 4] (fun nv iv wr => ∃ k n : Nat, k ≤ cl.length ∧ iv = .int .i64 k ∧ nv = .int .i64 n ∧ n ≤ 90000 ∧ Hid (n = (presM (cl.take k)).length) ∧ Below w.heap.size w wr) (fun _ i _ => cl.length - (intOf i).toNat)
    case atStart => exact ⟨0, 0, Nat.zero_le _, rfl, rfl, by omega, Lib.hid rfl, Below.refl _ _⟩
    case round =>
      obtain ⟨k, n, hk, rfl, rfl, hn, HG, HB⟩ := hrel
      by_cases hlt : k < cl.length
      · obtain ⟨g0, of0, hA, hall⟩ := CtlD.atA (HC.out.below HB (Nat.le_refl _)) hlt
        simp only at hA
        subst hA
        have HX : Hid (CtlOk w cl[k]) := Lib.hid (ctls_mem HCS.out (List.getElem_mem hlt))
        have HS : Hid ((presM (cl.take (k + 1))).length = (presM (cl.take k)).length + (1 + (presM cl[k].th.l).length + (presM cl[k].el.l).length)) := Lib.hid (by
          rw [pres_take hlt, List.length_append, List.length_cons, List.length_append]; omega)
        have HP := Lib.hid (pres_th (List.getElem_mem hlt))
        have HL : Hid ((presM (cl.take (k + 1))).length ≤ 90000) := Lib.hid (Nat.le_trans (pres_part cl (k + 1)) HN.out)
        generalize cl[k] = x at *
        have hb3 : ∀ w', Below wr.heap.size wr w' → w'.cell? ⟨g0, of0 + k * 5 + 3, none⟩ = some (.slice x.th.A x.th.l.length x.th.c) ∧ w'.cell? ⟨g0, of0 + k * 5 + 4, none⟩ = some (.slice x.el.A x.el.l.length x.el.c) :=
          fun w' h => ⟨(hall w' h).2.2.2.1, (hall w' h).2.2.2.2⟩
        have HXt : Hid (LOk w 5 CtlD.cells x.th ∧ CtlsOk w x.th.l) := Lib.hid ⟨(ctl_parts HX.out).2.1, (ctl_parts HX.out).2.2.2.1⟩
        have HXe : Hid (LOk w 5 CtlD.cells x.el ∧ CtlsOk w x.el.l) := Lib.hid ⟨(ctl_parts HX.out).2.2.1, (ctl_parts HX.out).2.2.2.2⟩
        have HPn : Hid ((presM x.th.l).length < m ∧ (presM x.th.l).length ≤ 90000 ∧ (presM x.el.l).length < m ∧ (presM x.el.l).length ≤ 90000) := Lib.hid (by
          have h1 := HP.out.1
          have h2 := HP.out.2.2.1
          have h3 := HM.out
          have h4 := HN.out
          omega)
        clear hall HX HP
        generalize x.th = xt at *
        generalize x.el = xe at *
        obtain ⟨tl, tA, tc⟩ := xt
        obtain ⟨el, eA, ec⟩ := xe
        simp only at hb3 HXt HXe HPn HS
        have HCt : Hid (∀ w', Below wr.heap.size wr w' → Calls Tryz.prog 157 #[.slice tA tl.length tc] w' fun e w2 => e = .returned (.int .i64 ((presM tl).length : Int)) ∧ Below w'.heap.size w' w2) :=
          Lib.hid (fun w' h => IH.out ⟨tl, tA, tc⟩ w' HPn.out.1 HPn.out.2.1 (HXt.out.1.below (below_step HB h) (Nat.le_refl _)) (CtlsOk.below (below_step HB h) HXt.out.2))
        have HCe : Hid (∀ w', Below wr.heap.size wr w' → Calls Tryz.prog 157 #[.slice eA el.length ec] w' fun e w2 => e = .returned (.int .i64 ((presM el).length : Int)) ∧ Below w'.heap.size w' w2) :=
          Lib.hid (fun w' h => IH.out ⟨el, eA, ec⟩ w' HPn.out.2.2.1 HPn.out.2.2.2 (HXe.out.1.below (below_step HB h) (Nat.le_refl _)) (CtlsOk.below (below_step HB h) HXe.out.2))
        have ht1 := HPn.out.2.1
        have ht2 := HPn.out.2.2.2
        generalize (presM tl).length = a at *
        generalize (presM el).length = b at *
        have H0 := Lib.hid (Below.refl wr.heap.size wr)
        have HBw := Lib.hid HB
        have hlt' : (k : Int) < (cl.length : Int) := by omega
        clear HB HXt HXe HPn
        go_wp2
        go_region_held3 (fun w' => Below wr.heap.size wr w') (first | exact H0.out | exact below_drew H0.out | (exact below_step (by assumption) (by assumption)) | assumption)
          (first | (go_at_call 157; with_reducible (refine (HCt.out _ (by assumption)).mono ?_); rintro e w1 ⟨rfl, hb1⟩)
                 | (go_at_call 157; with_reducible (refine (HCe.out _ (by assumption)).mono ?_); rintro e w1 ⟨rfl, hb1⟩))
        have HB5 : Hid (Below wr.heap.size wr _) := Lib.hid (by assumption)
        go_wp2
        go_roundw
        case rel => exact ⟨k + 1, n + (1 + a + b), by omega, by go_num, (by rw [IntWalk.i64_in (1 + (a : Int)) (by omega), IntWalk.i64_in (1 + (a : Int) + (b : Int)) (by omega), IntWalk.i64_in ((n : Int) + (1 + (a : Int) + (b : Int))) (by omega)]; congr 1), by have := HS.out; have := HG.out; have := HL.out; omega, Lib.hid (by rw [HS.out, ← HG.out]), below_step HBw.out HB5.out⟩
        case measure => simp [intOf]; omega
      · have e : k = cl.length := by omega
        have HR : Hid (n = (presM cl).length) := Lib.hid (by have := HG.out; rwa [e, List.take_length] at this)
        go_wp2
        go_ret
        exact ⟨by rw [HR.out]; rfl, HB⟩

theorem max3 (n a b : Nat) : (if (if (n : Int) < 1 + (a : Int) then 1 + (a : Int) else (n : Int)) < 1 + (b : Int) then 1 + (b : Int) else if (n : Int) < 1 + (a : Int) then 1 + (a : Int) else (n : Int)) = ((max n (max a b + 1) : Nat) : Int) := by
  by_cases h1 : (n : Int) < 1 + (a : Int)
  · rw [if_pos h1]
    by_cases h2 : 1 + (a : Int) < 1 + (b : Int)
    · rw [if_pos h2]; omega
    · rw [if_neg h2]; omega
  · rw [if_neg h1]
    by_cases h2 : (n : Int) < 1 + (b : Int)
    · rw [if_pos h2]; omega
    · rw [if_neg h2]; omega
set_option maxRecDepth 100000 in
set_option maxHeartbeats 8000000 in
theorem rnesting_any : ∀ (m : Nat) (c : L CtlD) (w : World), nestM c.l < m → nestM c.l ≤ 90000 → LOk w 5 CtlD.cells c → CtlsOk w c.l →
    Calls Tryz.prog 158 #[.slice c.A c.l.length c.c] w fun e w' => e = .returned (.int .i64 (nestM c.l : Int)) ∧ Below w.heap.size w w'
  | 0, _, _, h, _, _, _ => absurd h (Nat.not_lt_zero _)
  | m + 1, ⟨cl, cA, cc⟩, w, hm, hN, hc, hcs => by
    have IH := Lib.hid (rnesting_any m)
    have HC := Lib.hid hc
    have HCS := Lib.hid hcs
    have HM := Lib.hid hm
    have HN := Lib.hid hN
    have hlen := hc.1
    unfold maxLen at hlen
    simp only at hlen HCS HM HN
    clear hc hcs hm hN
    go_enter Tryz.func158, Tryz.ntmps158
    go_wp2
    go_loopw [3, 4] (fun nv iv wr => ∃ k n : Nat, k ≤ cl.length ∧ iv = .int .i64 k ∧ nv = .int .i64 n ∧ Hid (n = nestM (cl.take k)) ∧ Below w.heap.size w wr) (fun _ i _ => cl.length - (intOf i).toNat)
    case atStart => exact ⟨0, 0, Nat.zero_le _, rfl, rfl, Lib.hid rfl, Below.refl _ _⟩
    case round =>
      obtain ⟨k, n, hk, rfl, rfl, HG, HB⟩ := hrel
      by_cases hlt : k < cl.length
      · obtain ⟨g0, of0, hA, hall⟩ := CtlD.atA (HC.out.below HB (Nat.le_refl _)) hlt
        simp only at hA
        subst hA
        have HX : Hid (CtlOk w cl[k]) := Lib.hid (ctls_mem HCS.out (List.getElem_mem hlt))
        have hmem := nest_mem (List.getElem_mem hlt)
        have HS : Hid (nestM (cl.take (k + 1)) = max (nestM (cl.take k)) (max (nestM cl[k].th.l) (nestM cl[k].el.l) + 1)) := Lib.hid (by rw [take_snoc cl k hlt, nest_snoc])
        have HPn : Hid (nestM cl[k].th.l < m ∧ nestM cl[k].th.l ≤ 90000 ∧ nestM cl[k].el.l < m ∧ nestM cl[k].el.l ≤ 90000) := Lib.hid (by
          have := HM.out
          have := HN.out
          omega)
        clear hmem
        generalize cl[k] = x at *
        have hb3 : ∀ w', Below wr.heap.size wr w' → w'.cell? ⟨g0, of0 + k * 5 + 3, none⟩ = some (.slice x.th.A x.th.l.length x.th.c) ∧ w'.cell? ⟨g0, of0 + k * 5 + 4, none⟩ = some (.slice x.el.A x.el.l.length x.el.c) :=
          fun w' h => ⟨(hall w' h).2.2.2.1, (hall w' h).2.2.2.2⟩
        have HXt : Hid (LOk w 5 CtlD.cells x.th ∧ CtlsOk w x.th.l) := Lib.hid ⟨(ctl_parts HX.out).2.1, (ctl_parts HX.out).2.2.2.1⟩
        have HXe : Hid (LOk w 5 CtlD.cells x.el ∧ CtlsOk w x.el.l) := Lib.hid ⟨(ctl_parts HX.out).2.2.1, (ctl_parts HX.out).2.2.2.2⟩
        clear hall HX
        generalize x.th = xt at *
        generalize x.el = xe at *
        obtain ⟨tl, tA, tc⟩ := xt
        obtain ⟨el, eA, ec⟩ := xe
        simp only at hb3 HXt HXe HPn HS
        have HCt : Hid (∀ w', Below wr.heap.size wr w' → Calls Tryz.prog 158 #[.slice tA tl.length tc] w' fun e w2 => e = .returned (.int .i64 (nestM tl : Int)) ∧ Below w'.heap.size w' w2) :=
          Lib.hid (fun w' h => IH.out ⟨tl, tA, tc⟩ w' HPn.out.1 HPn.out.2.1 (HXt.out.1.below (below_step HB h) (Nat.le_refl _)) (CtlsOk.below (below_step HB h) HXt.out.2))
        have HCe : Hid (∀ w', Below wr.heap.size wr w' → Calls Tryz.prog 158 #[.slice eA el.length ec] w' fun e w2 => e = .returned (.int .i64 (nestM el : Int)) ∧ Below w'.heap.size w' w2) :=
          Lib.hid (fun w' h => IH.out ⟨el, eA, ec⟩ w' HPn.out.2.2.1 HPn.out.2.2.2 (HXe.out.1.below (below_step HB h) (Nat.le_refl _)) (CtlsOk.below (below_step HB h) HXe.out.2))
        have ht1 := HPn.out.2.1
        have ht2 := HPn.out.2.2.2
        generalize nestM tl = a at *
        generalize nestM el = b at *
        have H0 := Lib.hid (Below.refl wr.heap.size wr)
        have HBw := Lib.hid HB
        have hlt' : (k : Int) < (cl.length : Int) := by omega
        have hwa : IntKind.i64.wrap (1 + (a : Int)) = 1 + (a : Int) := IntWalk.i64_in _ (by omega)
        have hwb : IntKind.i64.wrap (1 + (b : Int)) = 1 + (b : Int) := IntWalk.i64_in _ (by omega)
        clear HB HXt HXe HPn
        go_wp2
        go_region_held3 (fun w' => Below wr.heap.size wr w') (first | exact H0.out | exact below_drew H0.out | (exact below_step (by assumption) (by assumption)) | assumption)
          (first | (go_at_call 158; with_reducible (refine (HCt.out _ (by assumption)).mono ?_); rintro e w1 ⟨rfl, hb1⟩)
                 | (go_at_call 158; with_reducible (refine (HCe.out _ (by assumption)).mono ?_); rintro e w1 ⟨rfl, hb1⟩))
        have HB5 : Hid (Below wr.heap.size wr _) := Lib.hid (by assumption)
        go_wp2
        go_roundw
        case rel => exact ⟨k + 1, max n (max a b + 1), by omega, by go_num, congrArg (Value.int .i64) (max3 n a b), Lib.hid (by rw [HS.out, ← HG.out]), below_step HBw.out HB5.out⟩
        case measure => simp [intOf]; omega
      · have e : k = cl.length := by omega
        have HR : Hid (n = nestM cl) := Lib.hid (by have := HG.out; rwa [e, List.take_length] at this)
        go_wp2
        go_ret
        exact ⟨by rw [HR.out]; rfl, HB⟩

theorem one_ctl : ∀ u, ∀ c ∈ CtlD.cells u, c.oneCell' = true := by
  intro u c hc
  simp [CtlD.cells] at hc; rcases hc with rfl | rfl | rfl | rfl | rfl <;> rfl
/-- the slice of a row of the call's own -/
theorem row_slice {w : World} {B : Nat} {t : TypeId} {k : Nat} {v : Value} {n : Nat} {xs : List Value} (h : w.ownsRow B t k v n xs) : ∃ A c, v = .slice A n c := by
  rcases h.2 with ⟨hv, h0⟩ | ⟨g', cap, cur, hv, _, _, _⟩
  · exact ⟨none, 0, by rw [hv, h0]⟩
  · exact ⟨_, _, hv⟩
set_option maxRecDepth 100000 in
set_option maxHeartbeats 16000000 in
theorem rpre_any : ∀ (N : Nat) (c : L CtlD) (w : World), (presM c.l).length < N → (presM c.l).length ≤ 90000 → LOk w 5 CtlD.cells c → CtlsOk w c.l →
    Calls Tryz.prog 159 #[.slice c.A c.l.length c.c] w fun e w' => ∃ A cp, e = .returned (.slice A (presM c.l).length cp) ∧ w'.ownsRow w.heap.size 106 5 (.slice A (presM c.l).length cp) (presM c.l).length ((presM c.l).flatMap CtlD.cells) ∧ Below w.heap.size w w'
  | 0, _, _, h, _, _, _ => absurd h (Nat.not_lt_zero _)
  | m + 1, ⟨cl, cA, cc⟩, w, hm, hN, hc, hcs => by
    have IH := Lib.hid (rpre_any m)
    have HC := Lib.hid hc
    have HCS := Lib.hid hcs
    have HM := Lib.hid hm
    have HN := Lib.hid hN
    have hlen := hc.1
    unfold maxLen at hlen
    simp only at hlen HCS HM HN
    clear hc hcs hm hN
    obtain ⟨i0, hi, hz0, hz1, hz2⟩ := info_parts info_ctl
    go_enter Tryz.func159, Tryz.ntmps159
    go_wp2
    go_loopw [3, 4] (fun o iv wr => ∃ (k n : Nat) (A : Option Addr) (cp : Nat), k ≤ cl.length ∧ iv = .int .i64 k ∧ o = .slice A n cp ∧ n ≤ 90000 ∧ Hid (n = (presM (cl.take k)).length ∧ wr.ownsRow w.heap.size 106 5 (.slice A n cp) n ((presM (cl.take k)).flatMap CtlD.cells)) ∧ Below w.heap.size w wr) (fun _ i _ => cl.length - (intOf i).toNat)
    case atStart => exact ⟨0, 0, none, 0, Nat.zero_le _, rfl, rfl, Nat.zero_le _, Lib.hid ⟨rfl, World.ownsRow_nil _ _ _ _⟩, Below.refl _ _⟩
    case round =>
      obtain ⟨k, n, A, cp, hk, rfl, rfl, hn, HG, hbel⟩ := hrel
      by_cases hlt : k < cl.length
      · obtain ⟨g0, of0, hA, hall⟩ := CtlD.atA HC.out hlt
        simp only at hA
        subst hA
        have HX : Hid (CtlOk w cl[k]) := Lib.hid (ctls_mem HCS.out (List.getElem_mem hlt))
        have HS : Hid (presM (cl.take (k + 1)) = presM (cl.take k) ++ cl[k] :: (presM cl[k].th.l ++ presM cl[k].el.l)) := Lib.hid (pres_take hlt)
        have HP := Lib.hid (pres_th (List.getElem_mem hlt))
        have HL : Hid ((presM (cl.take (k + 1))).length ≤ 90000) := Lib.hid (Nat.le_trans (pres_part cl (k + 1)) HN.out)
        generalize cl[k] = x at *
        have HXt : Hid (LOk w 5 CtlD.cells x.th ∧ CtlsOk w x.th.l) := Lib.hid ⟨(ctl_parts HX.out).2.1, (ctl_parts HX.out).2.2.2.1⟩
        have HXe : Hid (LOk w 5 CtlD.cells x.el ∧ CtlsOk w x.el.l) := Lib.hid ⟨(ctl_parts HX.out).2.2.1, (ctl_parts HX.out).2.2.2.2⟩
        have HPn : Hid ((presM x.th.l).length < m ∧ (presM x.th.l).length ≤ 90000 ∧ (presM x.el.l).length < m ∧ (presM x.el.l).length ≤ 90000) := Lib.hid (by
          have h1 := HP.out.1
          have h2 := HP.out.2.2.1
          have h3 := HM.out
          have h4 := HN.out
          omega)
        have HSn : Hid (n + 1 + (presM x.th.l).length + (presM x.el.l).length = (presM (cl.take (k + 1))).length) := Lib.hid (by
          rw [HS.out, HG.out.1, List.length_append, List.length_cons, List.length_append]; omega)
        have hsum : n + 1 + (presM x.th.l).length + (presM x.el.l).length ≤ 90000 := by have := HSn.out; have := HL.out; omega
        obtain ⟨kd, tb, cd, ⟨tl, tA, tc⟩, ⟨el, eA, ec⟩, hxe⟩ : ∃ (kd tb : Int) (cd : L NodeD) (t e : L CtlD), x = .mk kd tb cd t.l e.l t.A e.A t.c e.c := by
          cases x with | mk a b c d e f g h i => exact ⟨a, b, c, ⟨d, f, h⟩, ⟨e, g, i⟩, rfl⟩
        subst hxe
        simp only [CtlD.th, CtlD.el, CtlD.kind, CtlD.table, CtlD.cond] at HXt HXe HPn HSn hsum hall
        clear HX HP
        have hown1 := HG.out.2
        obtain ⟨d0, d1, d2, d3, d4⟩ := hall wr hbel
        go_wp2_with (first
          | (at_builtin; refine wpList_append_own_at _ rfl _ _ 28 rfl w.heap.size 106 i0 _ 5 88 Tryz.underlying28 hi hz0 hz1 hz2 rfl (by decide) _ _ _ rfl (hown1.alloc _) ⟨wr.heap.size, 0, none⟩ 1 1 [.int .i64 kd, .int .i64 tb, .slice cd.A cd.l.length cd.c, .slice tA tl.length tc, .slice eA el.length ec] rfl rfl ?g01 ?g02 ?g03 ?g04 ?g05 ?_))
        case g02 => exact ⟨rfl, rfl, rfl, rfl, rfl⟩
        case g03 => unfold maxLen; omega
        case g04 => omega
        case g05 => have := hbel.size; simp; omega
        intro v1 w1 hown2 hgrow _ _
        have hbel1 : Below w.heap.size w w1 := (hbel.alloc hbel.size _).grown hgrow (hbel.alloc hbel.size _).size fun j hj => (hown1.lt j hj).1
        obtain ⟨A1, c1, rfl⟩ := row_slice hown2
        have HO1 := Lib.hid hown2
        clear hown1 hown2 hgrow d0 d1 d2 d3 d4
        obtain ⟨_, _, _, d3, _⟩ := hall w1 hbel1
        go_wp2_with fail
        refine (IH.out ⟨tl, tA, tc⟩ w1 HPn.out.1 HPn.out.2.1 (HXt.out.1.below hbel1 (Nat.le_refl _)) (CtlsOk.below hbel1 HXt.out.2)).mono ?_
        rintro e w2 ⟨A2, c2, rfl, hown3, hb2⟩
        have hbel2 := hbel1.trans (hb2.mono hbel1.size)
        have HO2 := Lib.hid (own_below HO1.out hb2)
        obtain ⟨A2', c2', e2, _, HT2, hnil2, _⟩ := own_list (l := presM tl) (cells := CtlD.cells) (fun _ => rfl) hown3
        cases e2
        clear hown3 hb2 d3
        go_wp2_with (first
          | (at_builtin; refine wpList_append_L rfl _ _ 28 rfl w.heap.size 106 i0 _ 5 88 Tryz.underlying28 hi hz0 hz1 hz2 rfl (by decide) _ _ _ rfl HO2.out ⟨presM tl, A2, c2⟩ rfl HT2 hnil2 (fun _ => rfl) one_ctl ?g11 ?g12 ?g13 ?_))
        case g11 => unfold maxLen; omega
        case g12 => omega
        case g13 => exact hbel2.size
        intro v3 w3 hown4 hgrow
        have hbel3 : Below w.heap.size w w3 := hbel2.trans (grown_below HO2.out hgrow hbel2.size)
        obtain ⟨A3, c3, rfl⟩ := row_slice hown4
        have HO3 := Lib.hid hown4
        clear hown4 hgrow HO1 HO2 HT2 hnil2
        obtain ⟨_, _, _, _, d4⟩ := hall w3 hbel3
        go_wp2_with fail
        refine (IH.out ⟨el, eA, ec⟩ w3 HPn.out.2.2.1 HPn.out.2.2.2 (HXe.out.1.below hbel3 (Nat.le_refl _)) (CtlsOk.below hbel3 HXe.out.2)).mono ?_
        rintro e w4 ⟨A4, c4, rfl, hown5, hb4⟩
        have hbel4 := hbel3.trans (hb4.mono hbel3.size)
        have HO4 := Lib.hid (own_below HO3.out hb4)
        obtain ⟨A4', c4', e4, _, HT4, hnil4, _⟩ := own_list (l := presM el) (cells := CtlD.cells) (fun _ => rfl) hown5
        cases e4
        clear hown5 hb4 d4 HO3
        go_wp2_with (first
          | (at_builtin; refine wpList_append_L rfl _ _ 28 rfl w.heap.size 106 i0 _ 5 88 Tryz.underlying28 hi hz0 hz1 hz2 rfl (by decide) _ _ _ rfl HO4.out ⟨presM el, A4, c4⟩ rfl HT4 hnil4 (fun _ => rfl) one_ctl ?g21 ?g22 ?g23 ?_))
        case g21 => unfold maxLen; omega
        case g22 => omega
        case g23 => exact hbel4.size
        intro v5 w5 hown6 hgrow
        have hbel5 : Below w.heap.size w w5 := hbel4.trans (grown_below HO4.out hgrow hbel4.size)
        obtain ⟨A5, c5, rfl⟩ := row_slice hown6
        have HO5 : Hid (n + 1 + (presM tl).length + (presM el).length = (presM (cl.take (k + 1))).length ∧ w5.ownsRow w.heap.size 106 5 (.slice A5 (n + 1 + (presM tl).length + (presM el).length) c5) (n + 1 + (presM tl).length + (presM el).length) ((presM (cl.take (k + 1))).flatMap CtlD.cells)) := Lib.hid (by
          refine ⟨HSn.out, ?_⟩
          rw [HS.out, List.flatMap_append, List.flatMap_cons, List.flatMap_append]
          exact hown6)
        clear hown6 hgrow HO4 HT4 hnil4 HSn HS HL HG
        go_wp2
        go_roundw
        case rel => exact ⟨k + 1, n + 1 + (presM tl).length + (presM el).length, A5, c5, by omega, by go_num, rfl, hsum, HO5, hbel5⟩
        case measure => simp [intOf]; omega
      · have e : k = cl.length := by omega
        have HR : Hid (n = (presM cl).length ∧ wr.ownsRow w.heap.size 106 5 (.slice A n cp) n ((presM cl).flatMap CtlD.cells)) := Lib.hid (by have := HG.out; rwa [e, List.take_length] at this)
        go_wp2
        go_ret
        have h1 := HR.out.1
        have h2 := HR.out.2
        subst h1
        exact ⟨A, cp, rfl, h2, hbel⟩
end Go.Proofs.YtgfbikknkcaneaaGreat
namespace Go.Proofs.YtgfbikknkcaneaaGreat
open Go.RowKit

theorem rapplies_any (x : CtlD) (w : World) : Calls Tryz.prog 209 #[.agg (ctlCells x)] w fun e w' => e = .returned (.bool (appliesM x)) ∧ Below w.heap.size w w' := by
  have HR := Lib.hid (appliesM.eq_1 x)
  by_cases h1 : x.kind = 1
  · have HR2 : Hid (appliesM x = true) := Lib.hid (by rw [HR.out, h1]; rfl)
    have h1' : (x.kind == 1) = true := beq_iff_eq.2 h1
    clear h1
    go_enter Tryz.func209, Tryz.ntmps209
    go_wp2
    go_ret
    exact ⟨by rw [HR2.out]; rfl, below1 _ _⟩
  · have h1' : (x.kind == 1) = false := beq_eq_false_iff_ne.2 h1
    by_cases h2 : x.kind = 3
    · have HR2 : Hid (appliesM x = true) := Lib.hid (by rw [HR.out, h2]; rfl)
      have h2' : (x.kind == 3) = true := beq_iff_eq.2 h2
      clear h1 h2
      go_enter Tryz.func209, Tryz.ntmps209
      go_wp2
      go_ret
      exact ⟨by rw [HR2.out]; rfl, below1 _ _⟩
    · have HR2 : Hid (appliesM x = false) := Lib.hid (by rw [HR.out]; simp [h1, h2])
      have h2' : (x.kind == 3) = false := beq_eq_false_iff_ne.2 h2
      clear h1 h2
      go_enter Tryz.func209, Tryz.ntmps209
      go_wp2
      go_ret
      exact ⟨by rw [HR2.out]; rfl, below1 _ _⟩
/-- node j applies table t -/
def hitsM (t : Int) (x : CtlD) : Bool := appliesM x && decide (x.table = t)
theorem used_hits {l : List CtlD} {k : Nat} {t : Int} (hk : k ≤ l.length) : t ∈ usedM (l.take k) ↔ ∃ j, ∃ h : j < l.length, j < k ∧ hitsM t l[j] = true := by
  rw [usedM, List.mem_map]
  constructor
  · rintro ⟨y, hy, e⟩
    obtain ⟨h1, h2⟩ := List.mem_filter.1 hy
    obtain ⟨j, hj, e2⟩ := List.mem_take_iff_getElem.1 h1
    refine ⟨j, by omega, by omega, ?_⟩
    rw [hitsM, e2, h2, e]; simp
  · rintro ⟨j, hj, hjk, h⟩
    rw [hitsM, Bool.and_eq_true, decide_eq_true_eq] at h
    exact ⟨l[j], List.mem_filter.2 ⟨List.mem_take_iff_getElem.2 ⟨j, by omega, rfl⟩, h.1⟩, h.2⟩
/-- a node before i applies table t -/
def appM (l : List CtlD) (i : Nat) (t : Int) : Bool := decide (t ∈ usedM (l.take i))
theorem appM_iff (l : List CtlD) (i : Nat) (t : Int) : appM l i t = true ↔ t ∈ usedM (l.take i) := by rw [appM, decide_eq_true_eq]
set_option linter.unusedSimpArgs false in
set_option maxRecDepth 100000 in
set_option maxHeartbeats 8000000 in
theorem rapplied_any (x : L CtlD) (at_ : Nat) (w : World) (h : LOk w 5 CtlD.cells x) (ha : at_ < x.l.length) :
    Calls Tryz.prog 189 #[.slice x.A x.l.length x.c, .int .i64 at_] w fun e w' => e = .returned (.bool (appM x.l at_ x.l[at_].table)) ∧ Below w.heap.size w w' := by
  obtain ⟨l, A0, c0⟩ := x
  have HX := Lib.hid h
  have hmx : l.length ≤ 9223372036854775807 := h.1
  clear h
  simp only at ha hmx ⊢
  have HU := Lib.hid ((appM_iff l at_ l[at_].table).trans (used_hits (l := l) (k := at_) (t := l[at_].table) (by omega)))
  obtain ⟨g, of, hA, hall⟩ := CtlD.allA HX.out (show 0 < l.length by omega)
  simp only at hA hall
  subst hA
  have HAL := Lib.hid hall
  have HAt := Lib.hid (fun w' h => (hall w' h at_ ha).2.1)
  clear hall
  generalize l[at_].table = t at *
  go_enter Tryz.func189, Tryz.ntmps189
  go_wp2
  go_loopw [5] (fun iv wr => ∃ k : Nat, k ≤ at_ ∧ iv = .int .i64 k ∧ Hid (∀ j (hj : j < l.length), j < k → hitsM t l[j] = false) ∧ Below w.heap.size w wr) (fun i _ => at_ - (intOf i).toNat)
  case atStart => exact ⟨0, Nat.zero_le _, rfl, Lib.hid (fun j _ hj => absurd hj (Nat.not_lt_zero _)), Below.refl _ _⟩
  case round =>
  obtain ⟨k, hk, rfl, HK, HB⟩ := hrel
  by_cases hlt : k < at_
  · have hkl : k < l.length := by omega
    have hq1 := fun w' (h : Below wr.heap.size wr w') => HAL.out w' (below_step HB h) k hkl
    have hq2 := fun w' (h : Below wr.heap.size wr w') => HAt.out w' (below_step HB h)
    have HYes : Hid (hitsM t l[k] = true → appM l at_ t = true) := Lib.hid (fun e => HU.out.2 ⟨k, hkl, hlt, e⟩)
    have HNo : Hid (hitsM t l[k] = false → ∀ j (hj : j < l.length), j < k + 1 → hitsM t l[j] = false) := Lib.hid (fun e j hj hjk => by
      rcases Nat.lt_succ_iff_lt_or_eq.1 hjk with h1 | rfl
      · exact HK.out j hj h1
      · exact e)
    have hn1 : (k : Int) < (l.length : Int) := by omega
    have hn2 : (at_ : Int) < (l.length : Int) := by omega
    have HAp : Hid (∀ u, Calls Tryz.prog 209 #[.agg (ctlCells l[k])] u fun e w' => e = .returned (.bool (appliesM l[k])) ∧ Below u.heap.size u w') := Lib.hid (fun u => rapplies_any l[k] u)
    generalize l[k] = y at *
    have HVV := Lib.hid HB
    have H0 := Lib.hid (Below.refl wr.heap.size wr)
    clear HB
    have HHt := Lib.hid (hitsM.eq_1 t y)
    cases hap : appliesM y
    · have HZ := Lib.hid (HNo.out (by rw [HHt.out, hap]; rfl))
      rw [hap] at HAp
      clear HYes HNo
      have hq3 := hq1 wr H0.out
      go_wp2
      refine wp_region_held_drew (S := fun w' => Below wr.heap.size wr w') (by kernel_rfl) (below_drew H0.out) (fun hHeld => ?_)
      refine wpAnyH_take (i := 0) (oi := { dst := some 11, op := .move (.tmp 0), type := 28, pos := "ref.go:65", after := #[], guard := none }) (v := ?v0) rfl (by kernel_rfl) (by kernel_rfl) (by kernel_rfl) (fun _ _ _ h => h) (Or.inl ⟨by rfl, ?y0⟩) (by assumption) ?r0
      case y0 => (intro w hSw; (try dsimp only at hSw); go_simp; try (with_reducible rfl))
      try simp only [Act.put, List.setIfInBounds_toArray, List.set_cons_zero, List.set_cons_succ]
      refine wpAnyH_take (i := 1) (oi := { dst := some 12, op := .move (.tmp 5), type := 3, pos := "ref.go:65", after := #[], guard := none }) (v := ?v1) rfl (by kernel_rfl) (by kernel_rfl) (by kernel_rfl) (fun _ _ _ h => h) (Or.inl ⟨by rfl, ?y1⟩) (by assumption) ?r1
      case y1 => (intro w hSw; (try dsimp only at hSw); go_simp; try (with_reducible rfl))
      try simp only [Act.put, List.setIfInBounds_toArray, List.set_cons_zero, List.set_cons_succ]
      refine wpAnyH_take (i := 2) (oi := { dst := some 13, op := .indexAddr 28 (.tmp 11) (.tmp 12), type := 0, pos := "ref.go:65", after := #[{ on := 0, ground := .data }, { on := 1, ground := .data }], guard := none }) (v := ?v2) rfl (by kernel_rfl) (by kernel_rfl) (by kernel_rfl) (fun _ _ _ h => h) (Or.inl ⟨by rfl, ?y2⟩) (by assumption) ?r2
      case y2 => (intro w hSw; (try dsimp only at hSw); go_simp; try (with_reducible rfl))
      try simp only [Act.put, List.setIfInBounds_toArray, List.set_cons_zero, List.set_cons_succ]
      refine wpAnyH_take (i := 3) (oi := { dst := some 14, op := .load 106 (.tmp 13), type := 106, pos := "ref.go:65", after := #[{ on := 2, ground := .data }], guard := none }) (v := ?v3) rfl (by kernel_rfl) (by kernel_rfl) (by kernel_rfl) (fun _ _ _ h => h) (Or.inl ⟨by rfl, ?y3⟩) (by assumption) ?r3
      case y3 => (intro w hSw; (try dsimp only at hSw); go_simp; try (with_reducible rfl))
      try simp only [Act.put, List.setIfInBounds_toArray, List.set_cons_zero, List.set_cons_succ]
      refine wpAnyH_ready (rs := [4]) (by kernel_rfl) (by simp) ?_
      refine AllReadyH.cons (o := { dst := some 15, op := .call { callee := .value (.func 209), args := #[.tmp 14], argTypes := #[106] }, type := 4, pos := "ref.go:65", after := #[{ on := 3, ground := .data }], guard := none }) rfl (fun K hK => ?_) AllReadyH.nil
      go_simp
      go_at_call 209
      refine (HAp.out _).mono ?_
      rintro e w1 ⟨rfl, hb1⟩
      refine hK.out _ _ (below_step hHeld hb1) (fun hHeld2 => ?_)
      clear hK K
      try simp only [Act.put, List.setIfInBounds_toArray, List.set_cons_zero, List.set_cons_succ]
      refine wpAnyH_take (i := 5) (oi := { dst := some 16, op := .move (.tmp 15), type := 4, pos := "ref.go:65", after := #[{ on := 4, ground := .data }, { on := 4, ground := .chain }], guard := none }) (v := ?v5) rfl (by kernel_rfl) (by kernel_rfl) (by kernel_rfl) (fun _ _ _ h => h) (Or.inl ⟨by rfl, ?y5⟩) (by assumption) ?r5
      case y5 => (intro w hSw; (try dsimp only at hSw); go_simp; try (with_reducible rfl))
      try simp only [Act.put, List.setIfInBounds_toArray, List.set_cons_zero, List.set_cons_succ]
      refine wpAnyH_take (i := 6) (oi := { dst := some 17, op := .move (.tmp 0), type := 28, pos := "ref.go:65", after := #[{ on := 5, ground := .guard }], guard := some (5, true) }) (v := undef) rfl (by kernel_rfl) (by kernel_rfl) (by kernel_rfl) (fun _ _ _ h => h) (Or.inr ⟨by rfl, rfl⟩) (by assumption) ?_
      try simp only [Act.put, List.setIfInBounds_toArray, List.set_cons_zero, List.set_cons_succ]
      refine wpAnyH_take (i := 7) (oi := { dst := some 18, op := .move (.tmp 5), type := 3, pos := "ref.go:65", after := #[{ on := 5, ground := .guard }], guard := some (5, true) }) (v := undef) rfl (by kernel_rfl) (by kernel_rfl) (by kernel_rfl) (fun _ _ _ h => h) (Or.inr ⟨by rfl, rfl⟩) (by assumption) ?_
      try simp only [Act.put, List.setIfInBounds_toArray, List.set_cons_zero, List.set_cons_succ]
      refine wpAnyH_take (i := 8) (oi := { dst := some 19, op := .indexAddr 28 (.tmp 17) (.tmp 18), type := 0, pos := "ref.go:65", after := #[{ on := 6, ground := .data }, { on := 7, ground := .data }, { on := 5, ground := .guard }], guard := some (5, true) }) (v := undef) rfl (by kernel_rfl) (by kernel_rfl) (by kernel_rfl) (fun _ _ _ h => h) (Or.inr ⟨by rfl, rfl⟩) (by assumption) ?_
      try simp only [Act.put, List.setIfInBounds_toArray, List.set_cons_zero, List.set_cons_succ]
      refine wpAnyH_take (i := 9) (oi := { dst := some 20, op := .fieldAddr 106 (.tmp 19) 1, type := 0, pos := "ref.go:65", after := #[{ on := 8, ground := .data }, { on := 5, ground := .guard }], guard := some (5, true) }) (v := undef) rfl (by kernel_rfl) (by kernel_rfl) (by kernel_rfl) (fun _ _ _ h => h) (Or.inr ⟨by rfl, rfl⟩) (by assumption) ?_
      try simp only [Act.put, List.setIfInBounds_toArray, List.set_cons_zero, List.set_cons_succ]
      refine wpAnyH_take (i := 10) (oi := { dst := some 21, op := .load 3 (.tmp 20), type := 3, pos := "ref.go:65", after := #[{ on := 9, ground := .data }, { on := 5, ground := .guard }], guard := some (5, true) }) (v := undef) rfl (by kernel_rfl) (by kernel_rfl) (by kernel_rfl) (fun _ _ _ h => h) (Or.inr ⟨by rfl, rfl⟩) (by assumption) ?_
      try simp only [Act.put, List.setIfInBounds_toArray, List.set_cons_zero, List.set_cons_succ]
      refine wpAnyH_take (i := 11) (oi := { dst := some 22, op := .move (.tmp 0), type := 28, pos := "ref.go:65", after := #[{ on := 5, ground := .guard }], guard := some (5, true) }) (v := undef) rfl (by kernel_rfl) (by kernel_rfl) (by kernel_rfl) (fun _ _ _ h => h) (Or.inr ⟨by rfl, rfl⟩) (by assumption) ?_
      try simp only [Act.put, List.setIfInBounds_toArray, List.set_cons_zero, List.set_cons_succ]
      refine wpAnyH_take (i := 12) (oi := { dst := some 23, op := .move (.tmp 1), type := 3, pos := "ref.go:65", after := #[{ on := 5, ground := .guard }], guard := some (5, true) }) (v := undef) rfl (by kernel_rfl) (by kernel_rfl) (by kernel_rfl) (fun _ _ _ h => h) (Or.inr ⟨by rfl, rfl⟩) (by assumption) ?_
      try simp only [Act.put, List.setIfInBounds_toArray, List.set_cons_zero, List.set_cons_succ]
      refine wpAnyH_take (i := 13) (oi := { dst := some 24, op := .indexAddr 28 (.tmp 22) (.tmp 23), type := 0, pos := "ref.go:65", after := #[{ on := 11, ground := .data }, { on := 12, ground := .data }, { on := 5, ground := .guard }], guard := some (5, true) }) (v := undef) rfl (by kernel_rfl) (by kernel_rfl) (by kernel_rfl) (fun _ _ _ h => h) (Or.inr ⟨by rfl, rfl⟩) (by assumption) ?_
      try simp only [Act.put, List.setIfInBounds_toArray, List.set_cons_zero, List.set_cons_succ]
      refine wpAnyH_take (i := 14) (oi := { dst := some 25, op := .fieldAddr 106 (.tmp 24) 1, type := 0, pos := "ref.go:65", after := #[{ on := 13, ground := .data }, { on := 5, ground := .guard }], guard := some (5, true) }) (v := undef) rfl (by kernel_rfl) (by kernel_rfl) (by kernel_rfl) (fun _ _ _ h => h) (Or.inr ⟨by rfl, rfl⟩) (by assumption) ?_
      try simp only [Act.put, List.setIfInBounds_toArray, List.set_cons_zero, List.set_cons_succ]
      refine wpAnyH_take (i := 15) (oi := { dst := some 26, op := .load 3 (.tmp 25), type := 3, pos := "ref.go:65", after := #[{ on := 14, ground := .data }, { on := 5, ground := .guard }], guard := some (5, true) }) (v := undef) rfl (by kernel_rfl) (by kernel_rfl) (by kernel_rfl) (fun _ _ _ h => h) (Or.inr ⟨by rfl, rfl⟩) (by assumption) ?_
      try simp only [Act.put, List.setIfInBounds_toArray, List.set_cons_zero, List.set_cons_succ]
      refine wpAnyH_take (i := 16) (oi := { dst := some 27, op := .binOp .eql 3 (.tmp 21) (.tmp 26) 3, type := 4, pos := "ref.go:65", after := #[{ on := 10, ground := .data }, { on := 15, ground := .data }, { on := 5, ground := .guard }], guard := some (5, true) }) (v := undef) rfl (by kernel_rfl) (by kernel_rfl) (by kernel_rfl) (fun _ _ _ h => h) (Or.inr ⟨by rfl, rfl⟩) (by assumption) ?_
      try simp only [Act.put, List.setIfInBounds_toArray, List.set_cons_zero, List.set_cons_succ]
      refine wpAnyH_take (i := 17) (oi := { dst := some 28, op := .pick (.tmp 16) (.tmp 27) (.const (Value.bool false)), type := 4, pos := "ref.go:65", after := #[{ on := 5, ground := .data }, { on := 16, ground := .data }], guard := none }) (v := ?v17) rfl (by kernel_rfl) (by kernel_rfl) (by kernel_rfl) (fun _ _ _ h => h) (Or.inl ⟨by rfl, ?y17⟩) (by assumption) ?r17
      case y17 => (intro w hSw; (try dsimp only at hSw); go_simp; try (with_reducible rfl))
      try simp only [Act.put, List.setIfInBounds_toArray, List.set_cons_zero, List.set_cons_succ]
      refine wpAnyH_done (by kernel_rfl) ?_ _
      have HB5 : Hid (Below wr.heap.size wr _) := Lib.hid hHeld2
      go_wp2
      go_roundw
      case rel => exact ⟨k + 1, by omega, by go_num, HZ, below_step HVV.out HB5.out⟩
      case measure => simp [intOf]; omega
    · rw [hap] at HAp
      by_cases ht : y.table = t
      · have HZ := Lib.hid (HYes.out (by rw [HHt.out, hap, decide_eq_true ht]; rfl))
        have ht' : (y.table == t) = true := beq_iff_eq.2 ht
        clear HYes HNo ht
        go_wp2
        go_region_held3 (fun w' => Below wr.heap.size wr w') (first | exact H0.out | exact below_drew H0.out | (exact below_step (by assumption) (by assumption)) | assumption)
          (first | (go_at_call 209; refine (HAp.out _).mono ?_; rintro e w1 ⟨rfl, hb1⟩))
        have HB5 : Hid (Below wr.heap.size wr _) := Lib.hid (by assumption)
        go_wp2
        go_ret
        exact ⟨by rw [HZ.out]; rfl, below_step HVV.out HB5.out⟩
      · have HZ := Lib.hid (HNo.out (by rw [HHt.out, hap, decide_eq_false ht]; rfl))
        have ht' : (y.table == t) = false := beq_eq_false_iff_ne.2 ht
        clear HYes HNo ht
        go_wp2
        go_region_held3 (fun w' => Below wr.heap.size wr w') (first | exact H0.out | exact below_drew H0.out | (exact below_step (by assumption) (by assumption)) | assumption)
          (first | (go_at_call 209; refine (HAp.out _).mono ?_; rintro e w1 ⟨rfl, hb1⟩))
        have HB5 : Hid (Below wr.heap.size wr _) := Lib.hid (by assumption)
        go_wp2
        go_roundw
        case rel => exact ⟨k + 1, by omega, by go_num, HZ, below_step HVV.out HB5.out⟩
        case measure => simp [intOf]; omega
  · have e : k = at_ := by omega
    have HZ : Hid (appM l at_ t = false) := Lib.hid (by
      rw [← Bool.not_eq_true, HU.out]
      rintro ⟨j, hj, hjk, h⟩
      rw [HK.out j hj (by omega)] at h
      cases h)
    go_wp2
    go_ret
    exact ⟨by rw [HZ.out]; rfl, HB⟩

theorem rexprCheck_nil (p : ProgD) (x : L NodeD) (w : World) (o : ProgOk w p) (hx : LOk w 3 NodeD.cells x) :
    Calls Tryz.prog 183 #[.slice x.A x.l.length x.c, .agg (scopeCells p ⟨[], none, 0⟩)] w fun e w' => e = .returned (.tuple #[.int .i64 (exprM p [] x.l).1, .int .i64 (exprM p [] x.l).2]) ∧ Below w.heap.size w w' :=
  rexprCheck_any p ⟨[], none, 0⟩ x w o ⟨Nat.zero_le _, .inl rfl⟩ hx
set_option maxRecDepth 100000 in
set_option maxHeartbeats 16000000 in
theorem rcheckNode_any (p : ProgD) (x : L CtlD) (i : Nat) (w : World) (o : ProgOk w p) (h : LOk w 5 CtlD.cells x) (hi : i < x.l.length) (hx : LOk w 3 NodeD.cells x.l[i].cond) (hle : x.l[i].th.l.length + x.l[i].el.l.length ≤ 90000) :
    Calls Tryz.prog 160 #[.agg (progCells p), .slice x.A x.l.length x.c, .int .i64 i] w fun e w' => e = .returned (.int .i64 (nodeM p (usedM (x.l.take i)) x.l[i])) ∧ Below w.heap.size w w' := by
  obtain ⟨l, A0, c0⟩ := x
  simp only at hi hx hle ⊢
  have HO := Lib.hid o
  obtain ⟨W, hW, hw, HB, hp⟩ := box1 w (progCells p) 31
  have HW := Lib.hid hw
  have HX := Lib.hid (h.below hw (Nat.le_refl _))
  have HCd := Lib.hid (hx.below hw (Nat.le_refl _))
  have HAp := Lib.hid (fun u (hb : Below W.heap.size W u) => rapplied_any ⟨l, A0, c0⟩ i u (HX.out.below hb (Nat.le_refl _)) hi)
  obtain ⟨g, of, hA, hq⟩ := CtlD.atA HX.out hi
  have hn1 : (i : Int) < (l.length : Int) := by omega
  have HR := Lib.hid (nodeM_eq p (usedM (l.take i)) l[i])
  have HMm := Lib.hid (appM_iff l i l[i].table)
  clear o h hx hw
  simp only at hA HAp
  subst hA
  generalize usedM (l.take i) = us at *
  generalize l[i] = y at *
  obtain ⟨kd, tb, cd, tl, el, tA, eA, tc, ec⟩ := y
  simp only [CtlD.kind, CtlD.table, CtlD.cond, CtlD.th, CtlD.el] at hq HR HCd hle HAp HMm
  generalize appM l i tb = am at *
  go_enter Tryz.func160, Tryz.ntmps160
  go_upto_region 1 with fail
  rw [← hW]
  clear hW
  refine Exists.elim (box1 W #[.int .i64 kd, .int .i64 tb, .slice cd.A cd.l.length cd.c, .slice tA tl.length tc, .slice eA el.length ec] 106) ?_
  rintro U ⟨hU, hu, hUU, hc⟩
  go_upto_region 2 with fail
  rw [← hU]
  clear hU
  have HU := Lib.hid hu
  have hp2 := fun w' h => hp w' (below_step hu h)
  have hc3 := hc U hUU
  replace HB := hUU
  clear hp hUU hu hq
  by_cases k13 : kd = 1 ∨ kd = 3
  · replace HR := Lib.hid (HR.out.trans (if_pos k13))
    have k2 : (kd == 2) = false := beq_eq_false_iff_ne.2 (by omega)
    have kk1 : ¬ kd < 1 := by omega
    have kk2 : ¬ 3 < kd := by omega
    have hcase : tb < 0 ∨ (0 ≤ tb ∧ (p.tables.l.length : Int) ≤ tb) ∨ (0 ≤ tb ∧ tb < (p.tables.l.length : Int)) := by omega
    have hp3 := hp2 U HB
    rcases hcase with h1 | ⟨h1, h2⟩ | ⟨h1, h2⟩
    · replace HR := Lib.hid (HR.out.trans (if_pos (Or.inl h1)))
      go_wp2
      go_ret
      exact ⟨by rw [HR.out]; rfl, below_step HW.out (below_step HU.out HB)⟩
    · replace HR := Lib.hid (HR.out.trans (if_pos (Or.inr h2)))
      go_wp2
      go_ret
      exact ⟨by rw [HR.out]; rfl, below_step HW.out (below_step HU.out HB)⟩
    replace HR := Lib.hid (HR.out.trans (if_neg (show ¬ (tb < 0 ∨ (p.tables.l.length : Int) ≤ tb) by omega)))
    go_wp2_with fail
    refine (HAp.out _ (below_step HU.out (by first | exact HB | exact below_alloc HB _ | exact below_alloc (below_alloc HB _) _ | exact below_alloc (below_alloc (below_alloc HB _) _) _))).mono ?_
    rintro e w1 ⟨rfl, hbN⟩
    replace HB := below_step (by first | exact HB | exact below_alloc HB _ | exact below_alloc (below_alloc HB _) _ | exact below_alloc (below_alloc (below_alloc HB _) _) _) hbN
    clear hbN
    clear hc3 hp3
    have hc3 := hc _ HB
    cases am
    case true =>
      replace HR := Lib.hid (HR.out.trans (if_pos (HMm.out.1 rfl)))
      go_wp2
      go_ret
      exact ⟨by rw [HR.out]; rfl, below_step HW.out (below_step HU.out HB)⟩
    replace HR := Lib.hid (HR.out.trans (if_neg (fun h => by have := HMm.out.2 h; cases this)))
    rcases k13 with rfl | rfl
    · have hsum : ¬ ((0 : Int) < (tl.length : Int) + (el.length : Int)) ∨ (0 : Int) < (tl.length : Int) + (el.length : Int) := by omega
      have hwr : IntKind.i64.wrap ((tl.length : Int) + (el.length : Int)) = (tl.length : Int) + (el.length : Int) := IntWalk.i64_in _ (by omega)
      rcases hsum with hs | hs
      all_goals
        first
          | replace HR := Lib.hid (HR.out.trans (if_neg (show ¬ ((1 : Int) = 1 ∧ 0 < tl.length + el.length) by omega)))
          | replace HR := Lib.hid (HR.out.trans (if_pos (show ((1 : Int) = 1 ∧ 0 < tl.length + el.length) from ⟨rfl, by omega⟩)))
        go_wp2
        go_ret
        exact ⟨by rw [HR.out]; rfl, below_step HW.out (below_step HU.out HB)⟩
    · replace HR := Lib.hid (HR.out.trans (if_neg (show ¬ ((3 : Int) = 1 ∧ 0 < tl.length + el.length) by omega)))
      go_wp2
      go_ret
      exact ⟨by rw [HR.out]; rfl, below_step HW.out (below_step HU.out HB)⟩
  replace HR := Lib.hid (HR.out.trans (if_neg k13))
  by_cases h2 : kd = 2
  · subst h2
    replace HR := Lib.hid (HR.out.trans (if_pos rfl))
    have hp3 := hp2 U HB
    clear k13
    go_wp2_with fail
    refine (rexprCheck_nil p cd _ (HO.out.below (below_step HW.out (below_step HU.out (by first | exact HB | exact below_alloc HB _ | exact below_alloc (below_alloc HB _) _ | exact below_alloc (below_alloc (below_alloc HB _) _) _)))) (HCd.out.below (below_step HU.out (by first | exact HB | exact below_alloc HB _ | exact below_alloc (below_alloc HB _) _ | exact below_alloc (below_alloc (below_alloc HB _) _) _)) (Nat.le_refl _))).mono ?_
    rintro e w1 ⟨rfl, hbN⟩
    replace HB := below_step (by first | exact HB | exact below_alloc HB _ | exact below_alloc (below_alloc HB _) _ | exact below_alloc (below_alloc (below_alloc HB _) _) _) hbN
    clear hbN
    clear hc3 hp3
    by_cases k5 : (exprM p [] cd.l).2 = 0
    · replace HR := Lib.hid (HR.out.trans (if_neg (fun h => h k5)))
      have k5' : ((exprM p [] cd.l).2 == 0) = true := beq_iff_eq.2 k5
      have K5 := Lib.hid k5
      clear k5
      by_cases k6 : (exprM p [] cd.l).1 = 1
      · replace HR := Lib.hid (HR.out.trans (if_neg (fun h => h k6)))
        have k6' : ((exprM p [] cd.l).1 == 1) = true := beq_iff_eq.2 k6
        have k7 : ((exprM p [] cd.l).1 != 1) = false := by rw [bne, k6']; rfl
        clear k6
        go_wp2
        go_ret
        exact ⟨by rw [HR.out]; exact congrArg (fun x => Ending.returned (.int .i64 x)) K5.out, below_step HW.out (below_step HU.out HB)⟩
      · have k6' : ((exprM p [] cd.l).1 == 1) = false := beq_eq_false_iff_ne.2 k6
        have k7 : ((exprM p [] cd.l).1 != 1) = true := by rw [bne, k6']; rfl
        replace HR := Lib.hid (HR.out.trans (if_pos k6))
        clear k6
        go_wp2
        go_ret
        exact ⟨by rw [HR.out]; rfl, below_step HW.out (below_step HU.out HB)⟩
    · have k5' : ((exprM p [] cd.l).2 == 0) = false := beq_eq_false_iff_ne.2 k5
      replace HR := Lib.hid (HR.out.trans (if_pos k5))
      clear k5
      go_wp2
      go_ret
      exact ⟨by rw [HR.out]; rfl, below_step HW.out (below_step HU.out HB)⟩
  replace HR := Lib.hid (HR.out.trans (if_neg h2))
  have hcase : kd < 1 ∨ (¬ kd < 1 ∧ 3 < kd) := by omega
  clear k13 h2
  rcases hcase with h1 | ⟨h1, h2⟩
  all_goals
    go_wp2
    go_ret
    exact ⟨by rw [HR.out]; rfl, below_step HW.out (below_step HU.out HB)⟩

mutual
theorem pre_ok {w : World} : ∀ (x : CtlD), CtlOk w x → ∀ y ∈ preM x, CtlOk w y
  | .mk k t c th el tA eA tc ec, o, y, hy => by
    rw [preM] at hy
    rcases List.mem_cons.1 hy with rfl | hy
    · exact o
    · rw [CtlOk] at o
      rcases List.mem_append.1 hy with h | h
      · exact pres_ok th o.2.2.2.1 y h
      · exact pres_ok el o.2.2.2.2 y h
theorem pres_ok {w : World} : ∀ (l : List CtlD), CtlsOk w l → ∀ y ∈ presM l, CtlOk w y
  | [], _, y, hy => by rw [presM] at hy; cases hy
  | x :: l, o, y, hy => by
    rw [presM] at hy
    rw [CtlsOk] at o
    rcases List.mem_append.1 hy with h | h
    · exact pre_ok x o.1 y h
    · exact pres_ok l o.2 y h
end
mutual
theorem pre_sub : ∀ (x : CtlD), ∀ y ∈ preM x, (preM y).length ≤ (preM x).length
  | .mk k t c th el tA eA tc ec, y, hy => by
    rw [preM] at hy
    rcases List.mem_cons.1 hy with rfl | hy
    · exact Nat.le_refl _
    · rw [preM, List.length_cons, List.length_append]
      rcases List.mem_append.1 hy with h | h
      · have := pres_sub th y h
        omega
      · have := pres_sub el y h
        omega
theorem pres_sub : ∀ (l : List CtlD), ∀ y ∈ presM l, (preM y).length ≤ (presM l).length
  | [], y, hy => by rw [presM] at hy; cases hy
  | x :: l, y, hy => by
    rw [presM] at hy
    rw [presM, List.length_append]
    rcases List.mem_append.1 hy with h | h
    · have := pre_sub x y h
      omega
    · have := pres_sub l y h
      omega
end
theorem pres_kids {l : List CtlD} {y : CtlD} (h : y ∈ presM l) : y.th.l.length + y.el.l.length ≤ (presM l).length := by
  have h1 := pres_sub l y h
  rw [preM_eq, List.length_cons, List.length_append] at h1
  have h2 := pres_len y.th.l
  have h3 := pres_len y.el.l
  omega
set_option maxRecDepth 100000 in
set_option maxHeartbeats 8000000 in
theorem rcontrolCheck_any (p : ProgD) (w : World) (o : ProgOk w p) (hN : (presM p.control.l).length ≤ 90000) :
    Calls Tryz.prog 105 #[.agg (progCells p)] w fun e w' => e = .returned (.tuple #[.int .i64 (ctlM p).1, .int .i64 (ctlM p).2]) ∧ Below w.heap.size w w' := by
  have HO := Lib.hid o
  have HN := Lib.hid hN
  obtain ⟨W, hW, hw, HB, hp⟩ := box1 w (progCells p) 31
  have HW := Lib.hid hw
  have HR := Lib.hid (ctlM.eq_1 p)
  have HNe := Lib.hid (nest_le p.control.l)
  have hN0 : ((presM p.control.l).length : Int) ≤ 90000 := by omega
  have HS := Lib.hid (fun i (h : i < (presM p.control.l).length) => nodeAtM_at p (presM p.control.l) i (presM p.control.l)[i] (List.getElem?_eq_getElem h))
  have HK := Lib.hid (fun i (h : i < (presM p.control.l).length) => pres_kids (List.getElem_mem h))
  have HOk := Lib.hid (fun u (ou : CtlsOk u p.control.l) i (h : i < (presM p.control.l).length) => (ctl_parts (pres_ok p.control.l ou _ (List.getElem_mem h))).1)
  clear o hw hN
  go_enter Tryz.func105, Tryz.ntmps105
  go_upto_region 1 with fail
  rw [← hW]
  clear hW
  have hp3 := hp W HB
  go_wp2_with fail
  refine (rcount_any ((presM p.control.l).length + 1) p.control _ (Nat.lt_succ_self _) HN.out (HO.out.control.below (below_step HW.out (by first | exact HB | exact below_alloc HB _ | exact below_alloc (below_alloc HB _) _ | exact below_alloc (below_alloc (below_alloc HB _) _) _)) (Nat.le_refl _)) (CtlsOk.below (below_step HW.out (by first | exact HB | exact below_alloc HB _ | exact below_alloc (below_alloc HB _) _ | exact below_alloc (below_alloc (below_alloc HB _) _) _)) HO.out.ctl)).mono ?_
  rintro e w1 ⟨rfl, hbN⟩
  replace HB := below_step (by first | exact HB | exact below_alloc HB _ | exact below_alloc (below_alloc HB _) _ | exact below_alloc (below_alloc (below_alloc HB _) _) _) hbN
  clear hbN
  clear hp3
  have hp3 := hp _ HB
  by_cases k1 : 24 < (presM p.control.l).length
  · replace HR := Lib.hid (HR.out.trans (if_pos k1))
    have k1' : (24 : Int) < ((presM p.control.l).length : Int) := by omega
    clear k1
    go_wp2
    go_ret2
    exact ⟨ret_pp HR.out, below_step HW.out HB⟩
  replace HR := Lib.hid (HR.out.trans (if_neg k1))
  have k1' : ¬ (24 : Int) < ((presM p.control.l).length : Int) := by omega
  go_wp2_with fail
  refine (rnesting_any (nestM p.control.l + 1) p.control _ (Nat.lt_succ_self _) (Nat.le_trans HNe.out HN.out) (HO.out.control.below (below_step HW.out (by first | exact HB | exact below_alloc HB _ | exact below_alloc (below_alloc HB _) _ | exact below_alloc (below_alloc (below_alloc HB _) _) _)) (Nat.le_refl _)) (CtlsOk.below (below_step HW.out (by first | exact HB | exact below_alloc HB _ | exact below_alloc (below_alloc HB _) _ | exact below_alloc (below_alloc (below_alloc HB _) _) _)) HO.out.ctl)).mono ?_
  rintro e w2 ⟨rfl, hbN⟩
  replace HB := below_step (by first | exact HB | exact below_alloc HB _ | exact below_alloc (below_alloc HB _) _ | exact below_alloc (below_alloc (below_alloc HB _) _) _) hbN
  clear hbN
  clear hp3
  have hp3 := hp _ HB
  by_cases k2 : 6 < nestM p.control.l
  · replace HR := Lib.hid (HR.out.trans (if_pos k2))
    have k2' : (6 : Int) < (nestM p.control.l : Int) := by omega
    clear k1 k2
    go_wp2
    go_ret2
    exact ⟨ret_pp HR.out, below_step HW.out HB⟩
  replace HR := Lib.hid (HR.out.trans (if_neg k2))
  have k2' : ¬ (6 : Int) < (nestM p.control.l : Int) := by omega
  clear k1 k2
  go_wp2_with fail
  refine (rpre_any ((presM p.control.l).length + 1) p.control _ (Nat.lt_succ_self _) HN.out (HO.out.control.below (below_step HW.out HB) (Nat.le_refl _)) (CtlsOk.below (below_step HW.out HB) HO.out.ctl)).mono ?_
  rintro e w3 ⟨A, cp, rfl, hown, hbN⟩
  replace HB := below_step HB hbN
  obtain ⟨A2, c2, e2, _, hL, _, _⟩ := own_list (l := presM p.control.l) (cells := CtlD.cells) (fun _ => rfl) hown
  cases e2
  have HL := Lib.hid hL
  have HB1 := Lib.hid HB
  clear hbN hown hL hp3
  generalize presM p.control.l = l at *
  go_wp2
  clear HB
  go_loopw [5, 6] (fun iv _ wr => ∃ k : Nat, k ≤ l.length ∧ iv = .int .i64 k ∧ (∀ j, j < k → nodeAtM p l j = none) ∧ Below w3.heap.size w3 wr) (fun i _ _ => l.length - (intOf i).toNat)
  case atStart => exact ⟨0, Nat.zero_le _, rfl, fun j h => absurd h (Nat.not_lt_zero _), Below.refl _ _⟩
  case round =>
    obtain ⟨k, hk, rfl, hpre, HB⟩ := hrel
    have HPre := Lib.hid hpre
    clear hpre
    have hp3 := hp wr (below_step HB1.out HB)
    by_cases hlt : k < l.length
    · have HE := Lib.hid (HS.out k hlt)
      have HCS := Lib.hid (fun u (hb : Below w3.heap.size w3 u) => rcheckNode_any p ⟨l, A, cp⟩ k u (HO.out.below (below_step HW.out (below_step HB1.out hb))) (HL.out.below hb (Nat.le_refl _)) hlt (HOk.out u (CtlsOk.below (below_step HW.out (below_step HB1.out hb)) HO.out.ctl) k hlt) (Nat.le_trans (HK.out k hlt) HN.out))
      have hlt' : (k : Int) < (l.length : Int) := by omega
      simp only at HCS
      generalize nodeM p (usedM (l.take k)) l[k] = nm at *
      go_wp2_with fail
      refine (HCS.out _ (by first | exact HB | exact below_alloc HB _ | exact below_alloc (below_alloc HB _) _ | exact below_alloc (below_alloc (below_alloc HB _) _) _)).mono ?_
      rintro e w4 ⟨rfl, hbN⟩
      replace HB := below_step (by first | exact HB | exact below_alloc HB _ | exact below_alloc (below_alloc HB _) _ | exact below_alloc (below_alloc (below_alloc HB _) _) _) hbN
      clear hbN
      by_cases k1 : nm = 0
      · subst k1
        have HP2 := Lib.hid (firstE_step HPre.out (HE.out.trans (if_neg (by simp))))
        go_wp2
        go_roundw
        case rel => exact ⟨k + 1, by omega, by go_num, HP2.out, HB⟩
        case measure => simp [intOf]; omega
      · have HR2 := Lib.hid (HR.out.trans (show _ = ((k : Int), nm) by rw [firstE_some hlt HPre.out (HE.out.trans (if_pos k1))]))
        have k1' : (nm == 0) = false := beq_eq_false_iff_ne.2 k1
        clear k1
        go_wp2
        go_ret2
        exact ⟨ret_pp HR2.out, below_step HW.out (below_step HB1.out HB)⟩
    · have e : k = l.length := by omega
      have HR2 := Lib.hid (HR.out.trans (show _ = ((0 : Int), (0 : Int)) by rw [firstE_none (by rw [← e]; exact HPre.out)]))
      go_wp2
      go_ret2
      exact ⟨ret_pp HR2.out, below_step HW.out (below_step HB1.out HB)⟩
end Go.Proofs.YtgfbikknkcaneaaGreat
