/- The walks of program.each and of the clones of headers, statements, actions, tables and parser states. No condition but that the lists lie in memory, with at most a hundred elements. -/
import Derived.Test.YtgfbikknkcaneaaGreatBaB
import Derived.Maps.AppendAt
import Derived.Deep.RegionLaw
namespace Go.Proofs.YtgfbikknkcaneaaGreat
open Go.RowKit

def HeaderFit (h : HeaderD) : Prop := h.fields.l.length ≤ 100
def StmtFit (s : StmtD) : Prop := s.index.l.length ≤ 100 ∧ s.value.l.length ≤ 100
def ActFit (a : ActD) : Prop := a.params.l.length ≤ 100 ∧ a.body.l.length ≤ 100 ∧ ∀ s ∈ a.body.l, StmtFit s
def TabFit (t : TabD) : Prop := t.keys.l.length ≤ 100 ∧ t.acts.l.length ≤ 100 ∧ t.args.l.length ≤ 100
def StateFit (s : StateD) : Prop := s.extract.l.length ≤ 100 ∧ s.cases.l.length ≤ 100
theorem boxC (w : World) (cs : Array Value) (t : TypeId) (cs2 : Array Value) (t2 : TypeId) : ∃ W, W = (w.alloc (.cells cs t)).alloc (.cells cs2 t2) ∧ Below w.heap.size w W ∧ Below W.heap.size W W ∧ W.heap.size = w.heap.size + 2 ∧
    ∀ w', Below W.heap.size W w' → (∀ i, i < cs.size → w'.cell? ⟨w.heap.size, i, none⟩ = cs[i]?) ∧ (∀ i, i < cs2.size → w'.cell? ⟨w.heap.size + 1, i, none⟩ = cs2[i]?) ∧ (∀ i, w'.frozen? ⟨w.heap.size, i, none⟩ = false) ∧ (∀ i, w'.frozen? ⟨w.heap.size + 1, i, none⟩ = false) ∧ Blk w' (w.heap.size + 1) t2 cs2 := by
  have h1 : Blk ((w.alloc (.cells cs t)).alloc (.cells cs2 t2)) w.heap.size t cs := (Blk.new _ _ _).alloc _
  have h2 : Blk ((w.alloc (.cells cs t)).alloc (.cells cs2 t2)) (w.heap.size + 1) t2 cs2 := by simpa using Blk.new (w.alloc (.cells cs t)) t2 cs2
  refine ⟨_, rfl, below2 _ _ _, Below.refl _ _, by simp, fun w' hb => ⟨fun i _ => (h1.below hb h1.lt).cell i, fun i _ => (h2.below hb h2.lt).cell i, fun i => (h1.below hb h1.lt).frozen i, fun i => (h2.below hb h2.lt).frozen i, h2.below hb h2.lt⟩⟩

theorem end_stmt {y : StmtD} {w W w1 : World} (HS : Hid (W.heap.size = w.heap.size + 2)) (hb0 : Blk w1 (w.heap.size + 1) 129 #[.int .i64 0, .int .i64 0, .int .i64 0, .int .i64 0, .int .i64 0, .slice none 0 0, .slice none 0 0]) (HB : Below W.heap.size W w1) (HW : Hid (Below w.heap.size w W)) {A0 : Option Addr} {c0 : Nat} (HO0 : Hid (Own w1 (fun g => W.heap.size ≤ g) 131 3 NodeD.cells ⟨y.index.l, A0, c0⟩)) {A1 : Option Addr} {c1 : Nat} (HO1 : Hid (Own w1 (fun g => W.heap.size ≤ g) 131 3 NodeD.cells ⟨y.value.l, A1, c1⟩)) :
    Blk (((((((((w1.setCell ⟨w.heap.size, 5, none⟩ (.slice A0 y.index.l.length c0)).setCell ⟨w.heap.size, 6, none⟩ (.slice A1 y.value.l.length c1)).setCell ⟨w.heap.size + 1, 0, none⟩ (.int .i64 y.kind)).setCell ⟨w.heap.size + 1, 1, none⟩ (.int .i64 y.dh)).setCell ⟨w.heap.size + 1, 2, none⟩ (.int .i64 y.df)).setCell ⟨w.heap.size + 1, 3, none⟩ (.int .i64 y.reg)).setCell ⟨w.heap.size + 1, 4, none⟩ (.int .i64 y.hdr)).setCell ⟨w.heap.size + 1, 5, none⟩ (.slice A0 y.index.l.length c0)).setCell ⟨w.heap.size + 1, 6, none⟩ (.slice A1 y.value.l.length c1)) (w.heap.size + 1) 129 #[.int .i64 y.kind, .int .i64 y.dh, .int .i64 y.df, .int .i64 y.reg, .int .i64 y.hdr, .slice A0 y.index.l.length c0, .slice A1 y.value.l.length c1] ∧
    ∃ y' : StmtD, Ending.returned (.agg #[.int .i64 y.kind, .int .i64 y.dh, .int .i64 y.df, .int .i64 y.reg, .int .i64 y.hdr, .slice A0 y.index.l.length c0, .slice A1 y.value.l.length c1]) = .returned (.agg #[.int .i64 y'.kind, .int .i64 y'.dh, .int .i64 y'.df, .int .i64 y'.reg, .int .i64 y'.hdr, .slice y'.index.A y'.index.l.length y'.index.c, .slice y'.value.A y'.value.l.length y'.value.c]) ∧ y'.bare = y.bare ∧ StmtOwn (((((((((w1.setCell ⟨w.heap.size, 5, none⟩ (.slice A0 y.index.l.length c0)).setCell ⟨w.heap.size, 6, none⟩ (.slice A1 y.value.l.length c1)).setCell ⟨w.heap.size + 1, 0, none⟩ (.int .i64 y.kind)).setCell ⟨w.heap.size + 1, 1, none⟩ (.int .i64 y.dh)).setCell ⟨w.heap.size + 1, 2, none⟩ (.int .i64 y.df)).setCell ⟨w.heap.size + 1, 3, none⟩ (.int .i64 y.reg)).setCell ⟨w.heap.size + 1, 4, none⟩ (.int .i64 y.hdr)).setCell ⟨w.heap.size + 1, 5, none⟩ (.slice A0 y.index.l.length c0)).setCell ⟨w.heap.size + 1, 6, none⟩ (.slice A1 y.value.l.length c1)) (fun g => w.heap.size ≤ g) y' ∧ Below w.heap.size w (((((((((w1.setCell ⟨w.heap.size, 5, none⟩ (.slice A0 y.index.l.length c0)).setCell ⟨w.heap.size, 6, none⟩ (.slice A1 y.value.l.length c1)).setCell ⟨w.heap.size + 1, 0, none⟩ (.int .i64 y.kind)).setCell ⟨w.heap.size + 1, 1, none⟩ (.int .i64 y.dh)).setCell ⟨w.heap.size + 1, 2, none⟩ (.int .i64 y.df)).setCell ⟨w.heap.size + 1, 3, none⟩ (.int .i64 y.reg)).setCell ⟨w.heap.size + 1, 4, none⟩ (.int .i64 y.hdr)).setCell ⟨w.heap.size + 1, 5, none⟩ (.slice A0 y.index.l.length c0)).setCell ⟨w.heap.size + 1, 6, none⟩ (.slice A1 y.value.l.length c1)) := by
  refine ⟨(((((((((hb0.far (p := ⟨w.heap.size, 5, none⟩) (by simp) (.slice A0 y.index.l.length c0)).far (p := ⟨w.heap.size, 6, none⟩) (by simp) (.slice A1 y.value.l.length c1)).set_ 0 (.int .i64 y.kind)).set_ 1 (.int .i64 y.dh)).set_ 2 (.int .i64 y.df)).set_ 3 (.int .i64 y.reg)).set_ 4 (.int .i64 y.hdr)).set_ 5 (.slice A0 y.index.l.length c0)).set_ 6 (.slice A1 y.value.l.length c1)), ⟨y.kind, y.dh, y.df, y.reg, y.hdr, ⟨y.index.l, A0, c0⟩, ⟨y.value.l, A1, c1⟩⟩, rfl, rfl, ⟨(by refine Own.moves ?_ (Moves.mono (F := fun g => W.heap.size ≤ g) (fun g _ h => Nat.le_trans (by have := HS.out; omega) h)); (repeat refine Own.moves ?_ (Moves.set _ _ _ (fun g (h : W.heap.size ≤ g) => by have := HS.out; first | (show g ≠ w.heap.size; omega) | (show g ≠ w.heap.size + 1; omega)))); exact HO0.out), (by refine Own.moves ?_ (Moves.mono (F := fun g => W.heap.size ≤ g) (fun g _ h => Nat.le_trans (by have := HS.out; omega) h)); (repeat refine Own.moves ?_ (Moves.set _ _ _ (fun g (h : W.heap.size ≤ g) => by have := HS.out; first | (show g ≠ w.heap.size; omega) | (show g ≠ w.heap.size + 1; omega)))); exact HO1.out)⟩, (by (repeat refine Below.setCell ?_ (by first | exact Nat.le_refl _ | exact Nat.le_succ _) _); exact below_step HW.out HB)⟩

theorem info_stmt : (Tryz.prog.info? 129).map (fun i => (i.zero, i.size, i.bytes)) = some (some (.agg #[.int .i64 0, .int .i64 0, .int .i64 0, .int .i64 0, .int .i64 0, .slice none 0 0, .slice none 0 0]), 7, 88) := by kernel_rfl
theorem cells_stmt (u : StmtD) : (StmtD.cells u).length = 7 := rfl
set_option maxRecDepth 100000 in
set_option maxHeartbeats 8000000 in
theorem cloneStatement_any (y : StmtD) (w : World) (h : StmtOk w y) (hm : StmtFit y) :
    Calls Tryz.prog 130 #[.agg #[.int .i64 y.kind, .int .i64 y.dh, .int .i64 y.df, .int .i64 y.reg, .int .i64 y.hdr, .slice y.index.A y.index.l.length y.index.c, .slice y.value.A y.value.l.length y.value.c]] w fun e w' => ∃ y' : StmtD, e = .returned (.agg #[.int .i64 y'.kind, .int .i64 y'.dh, .int .i64 y'.df, .int .i64 y'.reg, .int .i64 y'.hdr, .slice y'.index.A y'.index.l.length y'.index.c, .slice y'.value.A y'.value.l.length y'.value.c]) ∧ y'.bare = y.bare ∧ StmtOwn w' (fun g => w.heap.size ≤ g) y' ∧ Below w.heap.size w w' := by
  obtain ⟨W, hW, hW1, HB, hS, hpq⟩ := boxC w #[.int .i64 y.kind, .int .i64 y.dh, .int .i64 y.df, .int .i64 y.reg, .int .i64 y.hdr, .slice y.index.A y.index.l.length y.index.c, .slice y.value.A y.value.l.length y.value.c] 129 #[.int .i64 0, .int .i64 0, .int .i64 0, .int .i64 0, .int .i64 0, .slice none 0 0, .slice none 0 0] 129
  have HC0 : Hid (∀ u, Below W.heap.size W u → Calls Tryz.prog 134 #[.slice y.index.A y.index.l.length y.index.c] u fun e w2 => ∃ A c, e = .returned (.slice A y.index.l.length c) ∧ Own w2 (fun g => W.heap.size ≤ g) 131 3 NodeD.cells ⟨y.index.l, A, c⟩ ∧ Below u.heap.size u w2) :=
    Lib.hid (fun u hb => (clone_node y.index u (h.index.below (below_step hW1 hb) (Nat.le_refl _)) hm.1).mono fun e w2 ⟨A, c, h1, h2, h3⟩ => ⟨A, c, h1, h2.moves (Moves.mono fun g _ h => Nat.le_trans hb.size h), h3⟩)
  have HC1 : Hid (∀ u, Below W.heap.size W u → Calls Tryz.prog 134 #[.slice y.value.A y.value.l.length y.value.c] u fun e w2 => ∃ A c, e = .returned (.slice A y.value.l.length c) ∧ Own w2 (fun g => W.heap.size ≤ g) 131 3 NodeD.cells ⟨y.value.l, A, c⟩ ∧ Below u.heap.size u w2) :=
    Lib.hid (fun u hb => (clone_node y.value u (h.value.below (below_step hW1 hb) (Nat.le_refl _)) hm.2).mono fun e w2 ⟨A, c, h1, h2, h3⟩ => ⟨A, c, h1, h2.moves (Moves.mono fun g _ h => Nat.le_trans hb.size h), h3⟩)
  have HQ := Lib.hid (fun w' h => (hpq w' h).2.2.2.2)
  have hp := fun w' h => (⟨(hpq w' h).1, (hpq w' h).2.1, (hpq w' h).2.2.1, (hpq w' h).2.2.2.1⟩ : _ ∧ _ ∧ _ ∧ _)
  clear hpq
  have HW := Lib.hid hW1
  have HS := Lib.hid hS
  clear h hm hW1 hS
  go_enter Tryz.func130, Tryz.ntmps130
  go_upto_region 1 with fail
  rw [← hW]
  clear hW
  go_wp2
  go_region_law (first
    | (go_simp; go_at_call 134; with_reducible (refine (HC0.out _ (by first | exact HB | exact HB.drew)).mono ?_); rintro e w1 ⟨A0, c0, rfl, hO, hb1⟩; have HO0 := Lib.hid hO; replace HB := below_step (by first | exact HB | exact HB.drew) hb1; clear hb1 hO)
    | (go_simp; go_at_call 134; with_reducible (refine (HC1.out _ (by first | exact HB | exact HB.drew)).mono ?_); rintro e w1 ⟨A1, c1, rfl, hO, hb1⟩; have HO1 := Lib.hid hO; replace HO0 := Lib.hid (HO0.out.moves (Moves.below hb1 (Nat.le_refl _))); replace HB := below_step (by first | exact HB | exact HB.drew) hb1; clear hb1 hO))
  all_goals go_wp2
  all_goals refine bodyPost_ret (v := .agg #[.int .i64 y.kind, .int .i64 y.dh, .int .i64 y.df, .int .i64 y.reg, .int .i64 y.hdr, .slice A0 y.index.l.length c0, .slice A1 y.value.l.length c1]) ?_ rfl ?_
  all_goals first
    | exact results_cell_row (fn := Tryz.f130) (p := 2) (ty := 129) rfl _ _ (w.heap.size + 1) 129 #[.int .i64 y.kind, .int .i64 y.dh, .int .i64 y.df, .int .i64 y.reg, .int .i64 y.hdr, .slice A0 y.index.l.length c0, .slice A1 y.value.l.length c1] (0, 0) _ rfl (end_stmt HS (HQ.out _ HB) HB HW HO0 HO1).1 Tryz.underlying129 rfl (by kernel_rfl)
    | exact (end_stmt HS (HQ.out _ HB) HB HW HO0 HO1).2
set_option maxRecDepth 100000 in
set_option maxHeartbeats 8000000 in
theorem each_stmt (x : L StmtD) (w : World) (h : LOk w 7 StmtD.cells x) (he : ∀ y ∈ x.l, StmtOk w y) (hm : x.l.length ≤ 100) (hf : ∀ y ∈ x.l, StmtFit y) :
    Calls Tryz.prog 129 #[x.v, .func (.func 130) #[] #[]] w fun e w' => ∃ x' : L StmtD, e = .returned (.slice x'.A x'.l.length x'.c) ∧ x'.l.map StmtD.bare = x.l.map StmtD.bare ∧
      (Own w' (fun g => w.heap.size ≤ g) 129 7 StmtD.cells x' ∧ ∀ s ∈ x'.l, StmtOwn w' (fun g => w.heap.size ≤ g) s) ∧ Below w.heap.size w w' := by
  obtain ⟨l, A0, c0⟩ := x
  have HX := Lib.hid h
  have HE := Lib.hid he
  have HF := Lib.hid hf
  clear h he hf
  simp only [L.v] at *
  obtain ⟨i0, hi, hz0, hz1, hz2⟩ := info_parts info_stmt
  go_enter Tryz.func129, Tryz.ntmps129
  go_wp2
  go_loopw [5, 7, 10] (fun o xv iv wr => ∃ (k : Nat) (L1 : List StmtD) (A : Option Addr) (c : Nat), k ≤ l.length ∧ iv = .int .i64 k ∧ o = .slice A k c ∧ Hid (L1.length = k ∧ L1.map StmtD.bare = (l.take k).map StmtD.bare ∧ wr.ownsRow w.heap.size 129 7 (.slice A k c) k (L1.flatMap StmtD.cells) ∧
      ∀ y ∈ L1, StmtOwn wr (fun g => w.heap.size ≤ g ∧ (Value.slice A k c).ownBlock ≠ some g) y) ∧ Below w.heap.size w wr)
    (fun _ _ i _ => l.length - (intOf i).toNat)
  case atStart => exact ⟨0, [], none, 0, Nat.zero_le _, rfl, rfl, Lib.hid ⟨rfl, rfl, World.ownsRow_nil _ _ _ _, fun y hy => by cases hy⟩, Below.refl _ _⟩
  case round =>
    obtain ⟨k, L1, A, c, hk, rfl, rfl, HL, hbel⟩ := hrel
    by_cases hlt : k < l.length
    · obtain ⟨g, of, rfl, d0, d1, d2, d3, d4, d5, d6⟩ := StmtD.at (HX.out.below hbel (Nat.le_refl _)) hlt
      simp only at d0 d1 d2 d3 d4 d5 d6
      have HT : Hid ((l.take (k + 1)).map StmtD.bare = (l.take k).map StmtD.bare ++ [l[k].bare]) := Lib.hid (by rw [List.take_succ_eq_append_getElem hlt, List.map_append]; rfl)
      have HEk : Hid (StmtOk w l[k] ∧ StmtFit l[k]) := Lib.hid ⟨HE.out _ (List.getElem_mem hlt), HF.out _ (List.getElem_mem hlt)⟩
      generalize l[k] = y at *
      have HB := Lib.hid hbel
      clear hbel
      go_wp2_with fail
      refine (cloneStatement_any y _ (HEk.out.1.below (below_alloc HB.out _)) HEk.out.2).mono ?_
      rintro e w1 ⟨y', rfl, hbare, hyo, hb1⟩
      have HY : Hid (y'.bare = y.bare ∧ StmtOwn w1 (fun g => wr.heap.size ≤ g) y') := Lib.hid ⟨hbare, hyo.moves (Moves.mono fun g _ h => by simp at h; omega)⟩
      have hb2 : Below wr.heap.size wr w1 := (below_alloc (Below.refl _ _) _).trans (hb1.mono (below_alloc (Below.refl _ _) _).size)
      have hown1 := own_below HL.out.2.2.1 hb2
      have hbel1 := HB.out.trans (hb2.mono HB.out.size)
      have HB2 := Lib.hid hb2
      clear hbare hyo hb1 hb2
      go_wp2_with (first
        | (at_builtin; refine wpList_append_own_at _ rfl _ _ 66 rfl w.heap.size 129 i0 _ 7 88 Tryz.underlying66 hi hz0 hz1 hz2 rfl (by decide) _ _ _ rfl (hown1.alloc _) ⟨w1.heap.size, 0, none⟩ 1 1 [.int .i64 y'.kind, .int .i64 y'.dh, .int .i64 y'.df, .int .i64 y'.reg, .int .i64 y'.hdr, .slice y'.index.A y'.index.l.length y'.index.c, .slice y'.value.A y'.value.l.length y'.value.c] rfl rfl ?c1 ?c2 ?c3 ?c4 ?c5 ?_))
      case c1 => exact new_cells _ _ _
      case c2 => intro u hu; simp only [List.mem_cons, List.not_mem_nil, or_false] at hu; rcases hu with rfl | rfl | rfl | rfl | rfl | rfl | rfl <;> rfl
      case c3 => unfold maxLen; omega
      case c4 => omega
      case c5 => have := hbel1.size; simp; omega
      intro v' w2 hown2 hgrow _ hat
      have hbel2 : Below w.heap.size w w2 := (hbel1.alloc hbel1.size _).grown hgrow (hbel1.alloc hbel1.size _).size fun j hj => (hown1.lt j hj).1
      obtain ⟨A', c', rfl⟩ : ∃ A' c', v' = .slice A' (k + 1) c' := by
        rcases hown2.2 with ⟨hv, h0⟩ | ⟨g', cap, cur, hv, _, _, _⟩
        · omega
        · exact ⟨_, _, hv⟩
      have hes := elem_step HL.out.2.2.1 HB2.out HB.out.size hgrow hat
      have HL2 : Hid ((L1 ++ [y']).length = k + 1 ∧ (L1 ++ [y']).map StmtD.bare = (l.take (k + 1)).map StmtD.bare ∧ w2.ownsRow w.heap.size 129 7 (.slice A' (k + 1) c') (k + 1) ((L1 ++ [y']).flatMap StmtD.cells) ∧
          ∀ z ∈ L1 ++ [y'], StmtOwn w2 (fun g => w.heap.size ≤ g ∧ (Value.slice A' (k + 1) c').ownBlock ≠ some g) z) := Lib.hid (by
        refine ⟨by rw [List.length_append, HL.out.1]; rfl, by rw [List.map_append, HL.out.2.1, HT.out, ← HY.out.1]; rfl, ?_, fun z hz => ?_⟩
        · rw [List.flatMap_append]
          simpa [StmtD.cells] using hown2
        · rcases List.mem_append.1 hz with hz | hz
          · exact (HL.out.2.2.2 z hz).moves hes.1
          · rw [List.mem_singleton] at hz
            subst hz
            exact HY.out.2.moves hes.2)
      generalize L1 ++ [y'] = L2 at HL2
      clear hes hat hgrow hown1 hown2 HL HY HT HEk
      go_wp2
      go_roundw
      case rel => exact ⟨k + 1, L2, A', c', by omega, by go_num, rfl, HL2, hbel2⟩
      case measure => simp [intOf]; omega
    · have hk' : k = l.length := by omega
      subst hk'
      have HR : Hid (∃ x' : L StmtD, (.slice A l.length c : Value) = .slice x'.A x'.l.length x'.c ∧ x'.l.map StmtD.bare = l.map StmtD.bare ∧ (Own wr (fun g => w.heap.size ≤ g) 129 7 StmtD.cells x' ∧ ∀ s ∈ x'.l, StmtOwn wr (fun g => w.heap.size ≤ g) s)) := Lib.hid (by
        have h := HL.out
        rw [List.take_length] at h
        refine ⟨⟨L1, A, c⟩, by rw [h.1], h.2.1, ⟨?_, fun g hg => ?_⟩, fun s hs => (h.2.2.2 s hs).moves (Moves.mono fun g _ h => h.1)⟩
        · simp only [L.v, h.1]
          exact ownsRow_zero h.2.2.1
        · simp only [L.v, h.1] at hg
          exact (own_lt h.2.2.1 g hg).1)
      clear HL
      go_wp2
      go_ret
      obtain ⟨x', h1, h2, h3⟩ := HR.out
      exact ⟨x', by rw [h1]; rfl, h2, h3, hbel⟩

theorem end_header {y : HeaderD} {w W w1 : World} (HS : Hid (W.heap.size = w.heap.size + 2)) (hb0 : Blk w1 (w.heap.size + 1) 61 #[.string ⟨#[]⟩, .slice none 0 0]) (HB : Below W.heap.size W w1) (HW : Hid (Below w.heap.size w W)) {A0 : Option Addr} {c0 : Nat} (HO0 : Hid (Own w1 (fun g => W.heap.size ≤ g) 63 2 FieldD.cells ⟨y.fields.l, A0, c0⟩)) :
    Blk (((w1.setCell ⟨w.heap.size, 1, none⟩ (.slice A0 y.fields.l.length c0)).setCell ⟨w.heap.size + 1, 0, none⟩ (.string y.name)).setCell ⟨w.heap.size + 1, 1, none⟩ (.slice A0 y.fields.l.length c0)) (w.heap.size + 1) 61 #[.string y.name, .slice A0 y.fields.l.length c0] ∧
    ∃ y' : HeaderD, Ending.returned (.agg #[.string y.name, .slice A0 y.fields.l.length c0]) = .returned (.agg #[.string y'.name, .slice y'.fields.A y'.fields.l.length y'.fields.c]) ∧ y'.bare = y.bare ∧ HeaderOwn (((w1.setCell ⟨w.heap.size, 1, none⟩ (.slice A0 y.fields.l.length c0)).setCell ⟨w.heap.size + 1, 0, none⟩ (.string y.name)).setCell ⟨w.heap.size + 1, 1, none⟩ (.slice A0 y.fields.l.length c0)) (fun g => w.heap.size ≤ g) y' ∧ Below w.heap.size w (((w1.setCell ⟨w.heap.size, 1, none⟩ (.slice A0 y.fields.l.length c0)).setCell ⟨w.heap.size + 1, 0, none⟩ (.string y.name)).setCell ⟨w.heap.size + 1, 1, none⟩ (.slice A0 y.fields.l.length c0)) := by
  refine ⟨(((hb0.far (p := ⟨w.heap.size, 1, none⟩) (by simp) (.slice A0 y.fields.l.length c0)).set_ 0 (.string y.name)).set_ 1 (.slice A0 y.fields.l.length c0)), ⟨y.name, ⟨y.fields.l, A0, c0⟩⟩, rfl, rfl, ⟨(by refine Own.moves ?_ (Moves.mono (F := fun g => W.heap.size ≤ g) (fun g _ h => Nat.le_trans (by have := HS.out; omega) h)); (repeat refine Own.moves ?_ (Moves.set _ _ _ (fun g (h : W.heap.size ≤ g) => by have := HS.out; first | (show g ≠ w.heap.size; omega) | (show g ≠ w.heap.size + 1; omega)))); exact HO0.out)⟩, (by (repeat refine Below.setCell ?_ (by first | exact Nat.le_refl _ | exact Nat.le_succ _) _); exact below_step HW.out HB)⟩

theorem info_header : (Tryz.prog.info? 61).map (fun i => (i.zero, i.size, i.bytes)) = some (some (.agg #[.string ⟨#[]⟩, .slice none 0 0]), 2, 40) := by kernel_rfl
theorem cells_header (u : HeaderD) : (HeaderD.cells u).length = 2 := rfl
set_option maxRecDepth 100000 in
set_option maxHeartbeats 8000000 in
theorem cloneHeader_any (y : HeaderD) (w : World) (h : HeaderOk w y) (hm : HeaderFit y) :
    Calls Tryz.prog 57 #[.agg #[.string y.name, .slice y.fields.A y.fields.l.length y.fields.c]] w fun e w' => ∃ y' : HeaderD, e = .returned (.agg #[.string y'.name, .slice y'.fields.A y'.fields.l.length y'.fields.c]) ∧ y'.bare = y.bare ∧ HeaderOwn w' (fun g => w.heap.size ≤ g) y' ∧ Below w.heap.size w w' := by
  obtain ⟨W, hW, hW1, HB, hS, hpq⟩ := boxC w #[.string y.name, .slice y.fields.A y.fields.l.length y.fields.c] 61 #[.string ⟨#[]⟩, .slice none 0 0] 61
  have HC0 : Hid (∀ u, Below W.heap.size W u → Calls Tryz.prog 58 #[.slice y.fields.A y.fields.l.length y.fields.c] u fun e w2 => ∃ A c, e = .returned (.slice A y.fields.l.length c) ∧ Own w2 (fun g => W.heap.size ≤ g) 63 2 FieldD.cells ⟨y.fields.l, A, c⟩ ∧ Below u.heap.size u w2) :=
    Lib.hid (fun u hb => (clone_field y.fields u (h.fields.below (below_step hW1 hb) (Nat.le_refl _)) hm).mono fun e w2 ⟨A, c, h1, h2, h3⟩ => ⟨A, c, h1, h2.moves (Moves.mono fun g _ h => Nat.le_trans hb.size h), h3⟩)
  have HQ := Lib.hid (fun w' h => (hpq w' h).2.2.2.2)
  have hp := fun w' h => (⟨(hpq w' h).1, (hpq w' h).2.1, (hpq w' h).2.2.1, (hpq w' h).2.2.2.1⟩ : _ ∧ _ ∧ _ ∧ _)
  clear hpq
  have HW := Lib.hid hW1
  have HS := Lib.hid hS
  clear h hm hW1 hS
  go_enter Tryz.func57, Tryz.ntmps57
  go_upto_region 1 with fail
  rw [← hW]
  clear hW
  go_wp2_with fail
  refine (HC0.out _ HB).mono ?_
  rintro e w1 ⟨A0, c0, rfl, hO, hb1⟩
  have HO0 := Lib.hid hO
  replace HB := below_step HB hb1
  clear hb1 hO
  go_wp2
  refine bodyPost_ret (v := .agg #[.string y.name, .slice A0 y.fields.l.length c0]) ?_ rfl ?_
  all_goals first
    | exact results_cell_row (fn := Tryz.f57) (p := 2) (ty := 61) rfl _ _ (w.heap.size + 1) 61 #[.string y.name, .slice A0 y.fields.l.length c0] (0, 0) _ rfl (end_header HS (HQ.out _ HB) HB HW HO0).1 Tryz.underlying61 rfl (by kernel_rfl)
    | exact (end_header HS (HQ.out _ HB) HB HW HO0).2
set_option maxRecDepth 100000 in
set_option maxHeartbeats 8000000 in
theorem each_header (x : L HeaderD) (w : World) (h : LOk w 2 HeaderD.cells x) (he : ∀ y ∈ x.l, HeaderOk w y) (hm : x.l.length ≤ 100) (hf : ∀ y ∈ x.l, HeaderFit y) :
    Calls Tryz.prog 56 #[x.v, .func (.func 57) #[] #[]] w fun e w' => ∃ x' : L HeaderD, e = .returned (.slice x'.A x'.l.length x'.c) ∧ x'.l.map HeaderD.bare = x.l.map HeaderD.bare ∧
      (Own w' (fun g => w.heap.size ≤ g) 61 2 HeaderD.cells x' ∧ ∀ s ∈ x'.l, HeaderOwn w' (fun g => w.heap.size ≤ g) s) ∧ Below w.heap.size w w' := by
  obtain ⟨l, A0, c0⟩ := x
  have HX := Lib.hid h
  have HE := Lib.hid he
  have HF := Lib.hid hf
  clear h he hf
  simp only [L.v] at *
  obtain ⟨i0, hi, hz0, hz1, hz2⟩ := info_parts info_header
  go_enter Tryz.func56, Tryz.ntmps56
  go_wp2
  go_loopw [5, 7, 10] (fun o xv iv wr => ∃ (k : Nat) (L1 : List HeaderD) (A : Option Addr) (c : Nat), k ≤ l.length ∧ iv = .int .i64 k ∧ o = .slice A k c ∧ Hid (L1.length = k ∧ L1.map HeaderD.bare = (l.take k).map HeaderD.bare ∧ wr.ownsRow w.heap.size 61 2 (.slice A k c) k (L1.flatMap HeaderD.cells) ∧
      ∀ y ∈ L1, HeaderOwn wr (fun g => w.heap.size ≤ g ∧ (Value.slice A k c).ownBlock ≠ some g) y) ∧ Below w.heap.size w wr)
    (fun _ _ i _ => l.length - (intOf i).toNat)
  case atStart => exact ⟨0, [], none, 0, Nat.zero_le _, rfl, rfl, Lib.hid ⟨rfl, rfl, World.ownsRow_nil _ _ _ _, fun y hy => by cases hy⟩, Below.refl _ _⟩
  case round =>
    obtain ⟨k, L1, A, c, hk, rfl, rfl, HL, hbel⟩ := hrel
    by_cases hlt : k < l.length
    · obtain ⟨g, of, rfl, d0, d1⟩ := HeaderD.at (HX.out.below hbel (Nat.le_refl _)) hlt
      simp only at d0 d1
      have HT : Hid ((l.take (k + 1)).map HeaderD.bare = (l.take k).map HeaderD.bare ++ [l[k].bare]) := Lib.hid (by rw [List.take_succ_eq_append_getElem hlt, List.map_append]; rfl)
      have HEk : Hid (HeaderOk w l[k] ∧ HeaderFit l[k]) := Lib.hid ⟨HE.out _ (List.getElem_mem hlt), HF.out _ (List.getElem_mem hlt)⟩
      generalize l[k] = y at *
      have HB := Lib.hid hbel
      clear hbel
      go_wp2_with fail
      refine (cloneHeader_any y _ (HEk.out.1.below (below_alloc HB.out _)) HEk.out.2).mono ?_
      rintro e w1 ⟨y', rfl, hbare, hyo, hb1⟩
      have HY : Hid (y'.bare = y.bare ∧ HeaderOwn w1 (fun g => wr.heap.size ≤ g) y') := Lib.hid ⟨hbare, hyo.moves (Moves.mono fun g _ h => by simp at h; omega)⟩
      have hb2 : Below wr.heap.size wr w1 := (below_alloc (Below.refl _ _) _).trans (hb1.mono (below_alloc (Below.refl _ _) _).size)
      have hown1 := own_below HL.out.2.2.1 hb2
      have hbel1 := HB.out.trans (hb2.mono HB.out.size)
      have HB2 := Lib.hid hb2
      clear hbare hyo hb1 hb2
      go_wp2_with (first
        | (at_builtin; refine wpList_append_own_at _ rfl _ _ 22 rfl w.heap.size 61 i0 _ 2 40 Tryz.underlying22 hi hz0 hz1 hz2 rfl (by decide) _ _ _ rfl (hown1.alloc _) ⟨w1.heap.size, 0, none⟩ 1 1 [.string y'.name, .slice y'.fields.A y'.fields.l.length y'.fields.c] rfl rfl ?c1 ?c2 ?c3 ?c4 ?c5 ?_))
      case c1 => exact new_cells _ _ _
      case c2 => intro u hu; simp only [List.mem_cons, List.not_mem_nil, or_false] at hu; rcases hu with rfl | rfl <;> rfl
      case c3 => unfold maxLen; omega
      case c4 => omega
      case c5 => have := hbel1.size; simp; omega
      intro v' w2 hown2 hgrow _ hat
      have hbel2 : Below w.heap.size w w2 := (hbel1.alloc hbel1.size _).grown hgrow (hbel1.alloc hbel1.size _).size fun j hj => (hown1.lt j hj).1
      obtain ⟨A', c', rfl⟩ : ∃ A' c', v' = .slice A' (k + 1) c' := by
        rcases hown2.2 with ⟨hv, h0⟩ | ⟨g', cap, cur, hv, _, _, _⟩
        · omega
        · exact ⟨_, _, hv⟩
      have hes := elem_step HL.out.2.2.1 HB2.out HB.out.size hgrow hat
      have HL2 : Hid ((L1 ++ [y']).length = k + 1 ∧ (L1 ++ [y']).map HeaderD.bare = (l.take (k + 1)).map HeaderD.bare ∧ w2.ownsRow w.heap.size 61 2 (.slice A' (k + 1) c') (k + 1) ((L1 ++ [y']).flatMap HeaderD.cells) ∧
          ∀ z ∈ L1 ++ [y'], HeaderOwn w2 (fun g => w.heap.size ≤ g ∧ (Value.slice A' (k + 1) c').ownBlock ≠ some g) z) := Lib.hid (by
        refine ⟨by rw [List.length_append, HL.out.1]; rfl, by rw [List.map_append, HL.out.2.1, HT.out, ← HY.out.1]; rfl, ?_, fun z hz => ?_⟩
        · rw [List.flatMap_append]
          simpa [HeaderD.cells] using hown2
        · rcases List.mem_append.1 hz with hz | hz
          · exact (HL.out.2.2.2 z hz).moves hes.1
          · rw [List.mem_singleton] at hz
            subst hz
            exact HY.out.2.moves hes.2)
      generalize L1 ++ [y'] = L2 at HL2
      clear hes hat hgrow hown1 hown2 HL HY HT HEk
      go_wp2
      go_roundw
      case rel => exact ⟨k + 1, L2, A', c', by omega, by go_num, rfl, HL2, hbel2⟩
      case measure => simp [intOf]; omega
    · have hk' : k = l.length := by omega
      subst hk'
      have HR : Hid (∃ x' : L HeaderD, (.slice A l.length c : Value) = .slice x'.A x'.l.length x'.c ∧ x'.l.map HeaderD.bare = l.map HeaderD.bare ∧ (Own wr (fun g => w.heap.size ≤ g) 61 2 HeaderD.cells x' ∧ ∀ s ∈ x'.l, HeaderOwn wr (fun g => w.heap.size ≤ g) s)) := Lib.hid (by
        have h := HL.out
        rw [List.take_length] at h
        refine ⟨⟨L1, A, c⟩, by rw [h.1], h.2.1, ⟨?_, fun g hg => ?_⟩, fun s hs => (h.2.2.2 s hs).moves (Moves.mono fun g _ h => h.1)⟩
        · simp only [L.v, h.1]
          exact ownsRow_zero h.2.2.1
        · simp only [L.v, h.1] at hg
          exact (own_lt h.2.2.1 g hg).1)
      clear HL
      go_wp2
      go_ret
      obtain ⟨x', h1, h2, h3⟩ := HR.out
      exact ⟨x', by rw [h1]; rfl, h2, h3, hbel⟩

theorem end_act {y : ActD} {w W w1 : World} (HS : Hid (W.heap.size = w.heap.size + 2)) (hb0 : Blk w1 (w.heap.size + 1) 68 #[.string ⟨#[]⟩, .slice none 0 0, .slice none 0 0]) (HB : Below W.heap.size W w1) (HW : Hid (Below w.heap.size w W)) {A0 : Option Addr} {c0 : Nat} (HO0 : Hid (Own w1 (fun g => W.heap.size ≤ g) 63 2 FieldD.cells ⟨y.params.l, A0, c0⟩)) {x1 : L StmtD} (HE1 : Hid (x1.l.map StmtD.bare = y.body.l.map StmtD.bare)) (HO1 : Hid (Own w1 (fun g => W.heap.size ≤ g) 129 7 StmtD.cells x1 ∧ ∀ s ∈ x1.l, StmtOwn w1 (fun g => W.heap.size ≤ g) s)) :
    Blk (((((w1.setCell ⟨w.heap.size, 1, none⟩ (.slice A0 y.params.l.length c0)).setCell ⟨w.heap.size, 2, none⟩ (.slice x1.A x1.l.length x1.c)).setCell ⟨w.heap.size + 1, 0, none⟩ (.string y.name)).setCell ⟨w.heap.size + 1, 1, none⟩ (.slice A0 y.params.l.length c0)).setCell ⟨w.heap.size + 1, 2, none⟩ (.slice x1.A x1.l.length x1.c)) (w.heap.size + 1) 68 #[.string y.name, .slice A0 y.params.l.length c0, .slice x1.A x1.l.length x1.c] ∧
    ∃ y' : ActD, Ending.returned (.agg #[.string y.name, .slice A0 y.params.l.length c0, .slice x1.A x1.l.length x1.c]) = .returned (.agg #[.string y'.name, .slice y'.params.A y'.params.l.length y'.params.c, .slice y'.body.A y'.body.l.length y'.body.c]) ∧ y'.bare = y.bare ∧ ActOwn (((((w1.setCell ⟨w.heap.size, 1, none⟩ (.slice A0 y.params.l.length c0)).setCell ⟨w.heap.size, 2, none⟩ (.slice x1.A x1.l.length x1.c)).setCell ⟨w.heap.size + 1, 0, none⟩ (.string y.name)).setCell ⟨w.heap.size + 1, 1, none⟩ (.slice A0 y.params.l.length c0)).setCell ⟨w.heap.size + 1, 2, none⟩ (.slice x1.A x1.l.length x1.c)) (fun g => w.heap.size ≤ g) y' ∧ Below w.heap.size w (((((w1.setCell ⟨w.heap.size, 1, none⟩ (.slice A0 y.params.l.length c0)).setCell ⟨w.heap.size, 2, none⟩ (.slice x1.A x1.l.length x1.c)).setCell ⟨w.heap.size + 1, 0, none⟩ (.string y.name)).setCell ⟨w.heap.size + 1, 1, none⟩ (.slice A0 y.params.l.length c0)).setCell ⟨w.heap.size + 1, 2, none⟩ (.slice x1.A x1.l.length x1.c)) := by
  refine ⟨(((((hb0.far (p := ⟨w.heap.size, 1, none⟩) (by simp) (.slice A0 y.params.l.length c0)).far (p := ⟨w.heap.size, 2, none⟩) (by simp) (.slice x1.A x1.l.length x1.c)).set_ 0 (.string y.name)).set_ 1 (.slice A0 y.params.l.length c0)).set_ 2 (.slice x1.A x1.l.length x1.c)), ⟨y.name, ⟨y.params.l, A0, c0⟩, x1⟩, rfl, (by simp only [ActD.bare]; rw [HE1.out]), ⟨(by refine Own.moves ?_ (Moves.mono (F := fun g => W.heap.size ≤ g) (fun g _ h => Nat.le_trans (by have := HS.out; omega) h)); (repeat refine Own.moves ?_ (Moves.set _ _ _ (fun g (h : W.heap.size ≤ g) => by have := HS.out; first | (show g ≠ w.heap.size; omega) | (show g ≠ w.heap.size + 1; omega)))); exact HO0.out), (by refine Own.moves ?_ (Moves.mono (F := fun g => W.heap.size ≤ g) (fun g _ h => Nat.le_trans (by have := HS.out; omega) h)); (repeat refine Own.moves ?_ (Moves.set _ _ _ (fun g (h : W.heap.size ≤ g) => by have := HS.out; first | (show g ≠ w.heap.size; omega) | (show g ≠ w.heap.size + 1; omega)))); exact HO1.out.1), (fun s hs => by refine StmtOwn.moves ?_ (Moves.mono (F := fun g => W.heap.size ≤ g) (fun g _ h => Nat.le_trans (by have := HS.out; omega) h)); (repeat refine StmtOwn.moves ?_ (Moves.set _ _ _ (fun g (h : W.heap.size ≤ g) => by have := HS.out; first | (show g ≠ w.heap.size; omega) | (show g ≠ w.heap.size + 1; omega)))); exact HO1.out.2 s hs)⟩, (by (repeat refine Below.setCell ?_ (by first | exact Nat.le_refl _ | exact Nat.le_succ _) _); exact below_step HW.out HB)⟩

theorem info_act : (Tryz.prog.info? 68).map (fun i => (i.zero, i.size, i.bytes)) = some (some (.agg #[.string ⟨#[]⟩, .slice none 0 0, .slice none 0 0]), 3, 64) := by kernel_rfl
theorem cells_act (u : ActD) : (ActD.cells u).length = 3 := rfl
set_option maxRecDepth 100000 in
set_option maxHeartbeats 8000000 in
theorem cloneAction_any (y : ActD) (w : World) (h : ActOk w y) (hm : ActFit y) :
    Calls Tryz.prog 61 #[.agg #[.string y.name, .slice y.params.A y.params.l.length y.params.c, .slice y.body.A y.body.l.length y.body.c]] w fun e w' => ∃ y' : ActD, e = .returned (.agg #[.string y'.name, .slice y'.params.A y'.params.l.length y'.params.c, .slice y'.body.A y'.body.l.length y'.body.c]) ∧ y'.bare = y.bare ∧ ActOwn w' (fun g => w.heap.size ≤ g) y' ∧ Below w.heap.size w w' := by
  obtain ⟨W, hW, hW1, HB, hS, hpq⟩ := boxC w #[.string y.name, .slice y.params.A y.params.l.length y.params.c, .slice y.body.A y.body.l.length y.body.c] 68 #[.string ⟨#[]⟩, .slice none 0 0, .slice none 0 0] 68
  have HC0 : Hid (∀ u, Below W.heap.size W u → Calls Tryz.prog 58 #[.slice y.params.A y.params.l.length y.params.c] u fun e w2 => ∃ A c, e = .returned (.slice A y.params.l.length c) ∧ Own w2 (fun g => W.heap.size ≤ g) 63 2 FieldD.cells ⟨y.params.l, A, c⟩ ∧ Below u.heap.size u w2) :=
    Lib.hid (fun u hb => (clone_field y.params u (h.params.below (below_step hW1 hb) (Nat.le_refl _)) hm.1).mono fun e w2 ⟨A, c, h1, h2, h3⟩ => ⟨A, c, h1, h2.moves (Moves.mono fun g _ h => Nat.le_trans hb.size h), h3⟩)
  have HC1 : Hid (∀ u, Below W.heap.size W u → Calls Tryz.prog 129 #[.slice y.body.A y.body.l.length y.body.c, .func (.func 130) #[] #[]] u fun e w2 => ∃ x' : L StmtD, e = .returned (.slice x'.A x'.l.length x'.c) ∧ x'.l.map StmtD.bare = y.body.l.map StmtD.bare ∧ (Own w2 (fun g => W.heap.size ≤ g) 129 7 StmtD.cells x' ∧ ∀ s ∈ x'.l, StmtOwn w2 (fun g => W.heap.size ≤ g) s) ∧ Below u.heap.size u w2) :=
    Lib.hid (fun u hb => (each_stmt y.body u (h.body.below (below_step hW1 hb) (Nat.le_refl _)) (fun s hs => (h.stmts s hs).below (below_step hW1 hb)) hm.2.1 (hm.2.2)).mono fun e w2 ⟨x2, h1, h2, h3, h4⟩ => ⟨x2, h1, h2, ⟨h3.1.moves (Moves.mono fun g _ h => Nat.le_trans hb.size h), fun s hs => (h3.2 s hs).moves (Moves.mono fun g _ h => Nat.le_trans hb.size h)⟩, h4⟩)
  have HQ := Lib.hid (fun w' h => (hpq w' h).2.2.2.2)
  have hp := fun w' h => (⟨(hpq w' h).1, (hpq w' h).2.1, (hpq w' h).2.2.1, (hpq w' h).2.2.2.1⟩ : _ ∧ _ ∧ _ ∧ _)
  clear hpq
  have HW := Lib.hid hW1
  have HS := Lib.hid hS
  clear h hm hW1 hS
  go_enter Tryz.func61, Tryz.ntmps61
  go_upto_region 1 with fail
  rw [← hW]
  clear hW
  go_wp2
  go_region_law (first
    | (go_simp; go_at_call 58; with_reducible (refine (HC0.out _ (by first | exact HB | exact HB.drew)).mono ?_); rintro e w1 ⟨A0, c0, rfl, hO, hb1⟩; have HO0 := Lib.hid hO; replace HB := below_step (by first | exact HB | exact HB.drew) hb1; clear hb1 hO)
    | (go_simp; go_at_call 129; with_reducible (refine (HC1.out _ (by first | exact HB | exact HB.drew)).mono ?_); rintro e w1 ⟨x1, rfl, hE, hO, hb1⟩; have HE1 := Lib.hid hE; have HO1 := Lib.hid hO; replace HO0 := Lib.hid (HO0.out.moves (Moves.below hb1 (Nat.le_refl _))); replace HB := below_step (by first | exact HB | exact HB.drew) hb1; clear hb1 hO hE))
  all_goals go_wp2
  all_goals refine bodyPost_ret (v := .agg #[.string y.name, .slice A0 y.params.l.length c0, .slice x1.A x1.l.length x1.c]) ?_ rfl ?_
  all_goals first
    | exact results_cell_row (fn := Tryz.f61) (p := 2) (ty := 68) rfl _ _ (w.heap.size + 1) 68 #[.string y.name, .slice A0 y.params.l.length c0, .slice x1.A x1.l.length x1.c] (0, 0) _ rfl (end_act HS (HQ.out _ HB) HB HW HO0 HE1 HO1).1 Tryz.underlying68 rfl (by kernel_rfl)
    | exact (end_act HS (HQ.out _ HB) HB HW HO0 HE1 HO1).2
set_option maxRecDepth 100000 in
set_option maxHeartbeats 8000000 in
theorem each_act (x : L ActD) (w : World) (h : LOk w 3 ActD.cells x) (he : ∀ y ∈ x.l, ActOk w y) (hm : x.l.length ≤ 100) (hf : ∀ y ∈ x.l, ActFit y) :
    Calls Tryz.prog 60 #[x.v, .func (.func 61) #[] #[]] w fun e w' => ∃ x' : L ActD, e = .returned (.slice x'.A x'.l.length x'.c) ∧ x'.l.map ActD.bare = x.l.map ActD.bare ∧
      (Own w' (fun g => w.heap.size ≤ g) 68 3 ActD.cells x' ∧ ∀ s ∈ x'.l, ActOwn w' (fun g => w.heap.size ≤ g) s) ∧ Below w.heap.size w w' := by
  obtain ⟨l, A0, c0⟩ := x
  have HX := Lib.hid h
  have HE := Lib.hid he
  have HF := Lib.hid hf
  clear h he hf
  simp only [L.v] at *
  obtain ⟨i0, hi, hz0, hz1, hz2⟩ := info_parts info_act
  go_enter Tryz.func60, Tryz.ntmps60
  go_wp2
  go_loopw [5, 7, 10] (fun o xv iv wr => ∃ (k : Nat) (L1 : List ActD) (A : Option Addr) (c : Nat), k ≤ l.length ∧ iv = .int .i64 k ∧ o = .slice A k c ∧ Hid (L1.length = k ∧ L1.map ActD.bare = (l.take k).map ActD.bare ∧ wr.ownsRow w.heap.size 68 3 (.slice A k c) k (L1.flatMap ActD.cells) ∧
      ∀ y ∈ L1, ActOwn wr (fun g => w.heap.size ≤ g ∧ (Value.slice A k c).ownBlock ≠ some g) y) ∧ Below w.heap.size w wr)
    (fun _ _ i _ => l.length - (intOf i).toNat)
  case atStart => exact ⟨0, [], none, 0, Nat.zero_le _, rfl, rfl, Lib.hid ⟨rfl, rfl, World.ownsRow_nil _ _ _ _, fun y hy => by cases hy⟩, Below.refl _ _⟩
  case round =>
    obtain ⟨k, L1, A, c, hk, rfl, rfl, HL, hbel⟩ := hrel
    by_cases hlt : k < l.length
    · obtain ⟨g, of, rfl, d0, d1, d2⟩ := ActD.at (HX.out.below hbel (Nat.le_refl _)) hlt
      simp only at d0 d1 d2
      have HT : Hid ((l.take (k + 1)).map ActD.bare = (l.take k).map ActD.bare ++ [l[k].bare]) := Lib.hid (by rw [List.take_succ_eq_append_getElem hlt, List.map_append]; rfl)
      have HEk : Hid (ActOk w l[k] ∧ ActFit l[k]) := Lib.hid ⟨HE.out _ (List.getElem_mem hlt), HF.out _ (List.getElem_mem hlt)⟩
      generalize l[k] = y at *
      have HB := Lib.hid hbel
      clear hbel
      go_wp2_with fail
      refine (cloneAction_any y _ (HEk.out.1.below (below_alloc HB.out _)) HEk.out.2).mono ?_
      rintro e w1 ⟨y', rfl, hbare, hyo, hb1⟩
      have HY : Hid (y'.bare = y.bare ∧ ActOwn w1 (fun g => wr.heap.size ≤ g) y') := Lib.hid ⟨hbare, hyo.moves (Moves.mono fun g _ h => by simp at h; omega)⟩
      have hb2 : Below wr.heap.size wr w1 := (below_alloc (Below.refl _ _) _).trans (hb1.mono (below_alloc (Below.refl _ _) _).size)
      have hown1 := own_below HL.out.2.2.1 hb2
      have hbel1 := HB.out.trans (hb2.mono HB.out.size)
      have HB2 := Lib.hid hb2
      clear hbare hyo hb1 hb2
      go_wp2_with (first
        | (at_builtin; refine wpList_append_own_at _ rfl _ _ 25 rfl w.heap.size 68 i0 _ 3 64 Tryz.underlying25 hi hz0 hz1 hz2 rfl (by decide) _ _ _ rfl (hown1.alloc _) ⟨w1.heap.size, 0, none⟩ 1 1 [.string y'.name, .slice y'.params.A y'.params.l.length y'.params.c, .slice y'.body.A y'.body.l.length y'.body.c] rfl rfl ?c1 ?c2 ?c3 ?c4 ?c5 ?_))
      case c1 => exact new_cells _ _ _
      case c2 => intro u hu; simp only [List.mem_cons, List.not_mem_nil, or_false] at hu; rcases hu with rfl | rfl | rfl <;> rfl
      case c3 => unfold maxLen; omega
      case c4 => omega
      case c5 => have := hbel1.size; simp; omega
      intro v' w2 hown2 hgrow _ hat
      have hbel2 : Below w.heap.size w w2 := (hbel1.alloc hbel1.size _).grown hgrow (hbel1.alloc hbel1.size _).size fun j hj => (hown1.lt j hj).1
      obtain ⟨A', c', rfl⟩ : ∃ A' c', v' = .slice A' (k + 1) c' := by
        rcases hown2.2 with ⟨hv, h0⟩ | ⟨g', cap, cur, hv, _, _, _⟩
        · omega
        · exact ⟨_, _, hv⟩
      have hes := elem_step HL.out.2.2.1 HB2.out HB.out.size hgrow hat
      have HL2 : Hid ((L1 ++ [y']).length = k + 1 ∧ (L1 ++ [y']).map ActD.bare = (l.take (k + 1)).map ActD.bare ∧ w2.ownsRow w.heap.size 68 3 (.slice A' (k + 1) c') (k + 1) ((L1 ++ [y']).flatMap ActD.cells) ∧
          ∀ z ∈ L1 ++ [y'], ActOwn w2 (fun g => w.heap.size ≤ g ∧ (Value.slice A' (k + 1) c').ownBlock ≠ some g) z) := Lib.hid (by
        refine ⟨by rw [List.length_append, HL.out.1]; rfl, by rw [List.map_append, HL.out.2.1, HT.out, ← HY.out.1]; rfl, ?_, fun z hz => ?_⟩
        · rw [List.flatMap_append]
          simpa [ActD.cells] using hown2
        · rcases List.mem_append.1 hz with hz | hz
          · exact (HL.out.2.2.2 z hz).moves hes.1
          · rw [List.mem_singleton] at hz
            subst hz
            exact HY.out.2.moves hes.2)
      generalize L1 ++ [y'] = L2 at HL2
      clear hes hat hgrow hown1 hown2 HL HY HT HEk
      go_wp2
      go_roundw
      case rel => exact ⟨k + 1, L2, A', c', by omega, by go_num, rfl, HL2, hbel2⟩
      case measure => simp [intOf]; omega
    · have hk' : k = l.length := by omega
      subst hk'
      have HR : Hid (∃ x' : L ActD, (.slice A l.length c : Value) = .slice x'.A x'.l.length x'.c ∧ x'.l.map ActD.bare = l.map ActD.bare ∧ (Own wr (fun g => w.heap.size ≤ g) 68 3 ActD.cells x' ∧ ∀ s ∈ x'.l, ActOwn wr (fun g => w.heap.size ≤ g) s)) := Lib.hid (by
        have h := HL.out
        rw [List.take_length] at h
        refine ⟨⟨L1, A, c⟩, by rw [h.1], h.2.1, ⟨?_, fun g hg => ?_⟩, fun s hs => (h.2.2.2 s hs).moves (Moves.mono fun g _ h => h.1)⟩
        · simp only [L.v, h.1]
          exact ownsRow_zero h.2.2.1
        · simp only [L.v, h.1] at hg
          exact (own_lt h.2.2.1 g hg).1)
      clear HL
      go_wp2
      go_ret
      obtain ⟨x', h1, h2, h3⟩ := HR.out
      exact ⟨x', by rw [h1]; rfl, h2, h3, hbel⟩

theorem end_tab {y : TabD} {w W w1 : World} (HS : Hid (W.heap.size = w.heap.size + 2)) (hb0 : Blk w1 (w.heap.size + 1) 52 #[.string ⟨#[]⟩, .slice none 0 0, .slice none 0 0, .int .i64 0, .slice none 0 0, .int .i64 0]) (HB : Below W.heap.size W w1) (HW : Hid (Below w.heap.size w W)) {A0 : Option Addr} {c0 : Nat} (HO0 : Hid (Own w1 (fun g => W.heap.size ≤ g) 133 3 KeyD.cells ⟨y.keys.l, A0, c0⟩)) {A1 : Option Addr} {c1 : Nat} (HO1 : Hid (Own w1 (fun g => W.heap.size ≤ g) 3 1 icell ⟨y.acts.l, A1, c1⟩)) {A2 : Option Addr} {c2 : Nat} (HO2 : Hid (Own w1 (fun g => W.heap.size ≤ g) 134 1 ucell ⟨y.args.l, A2, c2⟩)) :
    Blk (((((((((w1.setCell ⟨w.heap.size, 1, none⟩ (.slice A0 y.keys.l.length c0)).setCell ⟨w.heap.size, 2, none⟩ (.slice A1 y.acts.l.length c1)).setCell ⟨w.heap.size, 4, none⟩ (.slice A2 y.args.l.length c2)).setCell ⟨w.heap.size + 1, 0, none⟩ (.string y.name)).setCell ⟨w.heap.size + 1, 1, none⟩ (.slice A0 y.keys.l.length c0)).setCell ⟨w.heap.size + 1, 2, none⟩ (.slice A1 y.acts.l.length c1)).setCell ⟨w.heap.size + 1, 3, none⟩ (.int .i64 y.defA)).setCell ⟨w.heap.size + 1, 4, none⟩ (.slice A2 y.args.l.length c2)).setCell ⟨w.heap.size + 1, 5, none⟩ (.int .i64 y.size)) (w.heap.size + 1) 52 #[.string y.name, .slice A0 y.keys.l.length c0, .slice A1 y.acts.l.length c1, .int .i64 y.defA, .slice A2 y.args.l.length c2, .int .i64 y.size] ∧
    ∃ y' : TabD, Ending.returned (.agg #[.string y.name, .slice A0 y.keys.l.length c0, .slice A1 y.acts.l.length c1, .int .i64 y.defA, .slice A2 y.args.l.length c2, .int .i64 y.size]) = .returned (.agg #[.string y'.name, .slice y'.keys.A y'.keys.l.length y'.keys.c, .slice y'.acts.A y'.acts.l.length y'.acts.c, .int .i64 y'.defA, .slice y'.args.A y'.args.l.length y'.args.c, .int .i64 y'.size]) ∧ y'.bare = y.bare ∧ TabOwn (((((((((w1.setCell ⟨w.heap.size, 1, none⟩ (.slice A0 y.keys.l.length c0)).setCell ⟨w.heap.size, 2, none⟩ (.slice A1 y.acts.l.length c1)).setCell ⟨w.heap.size, 4, none⟩ (.slice A2 y.args.l.length c2)).setCell ⟨w.heap.size + 1, 0, none⟩ (.string y.name)).setCell ⟨w.heap.size + 1, 1, none⟩ (.slice A0 y.keys.l.length c0)).setCell ⟨w.heap.size + 1, 2, none⟩ (.slice A1 y.acts.l.length c1)).setCell ⟨w.heap.size + 1, 3, none⟩ (.int .i64 y.defA)).setCell ⟨w.heap.size + 1, 4, none⟩ (.slice A2 y.args.l.length c2)).setCell ⟨w.heap.size + 1, 5, none⟩ (.int .i64 y.size)) (fun g => w.heap.size ≤ g) y' ∧ Below w.heap.size w (((((((((w1.setCell ⟨w.heap.size, 1, none⟩ (.slice A0 y.keys.l.length c0)).setCell ⟨w.heap.size, 2, none⟩ (.slice A1 y.acts.l.length c1)).setCell ⟨w.heap.size, 4, none⟩ (.slice A2 y.args.l.length c2)).setCell ⟨w.heap.size + 1, 0, none⟩ (.string y.name)).setCell ⟨w.heap.size + 1, 1, none⟩ (.slice A0 y.keys.l.length c0)).setCell ⟨w.heap.size + 1, 2, none⟩ (.slice A1 y.acts.l.length c1)).setCell ⟨w.heap.size + 1, 3, none⟩ (.int .i64 y.defA)).setCell ⟨w.heap.size + 1, 4, none⟩ (.slice A2 y.args.l.length c2)).setCell ⟨w.heap.size + 1, 5, none⟩ (.int .i64 y.size)) := by
  refine ⟨(((((((((hb0.far (p := ⟨w.heap.size, 1, none⟩) (by simp) (.slice A0 y.keys.l.length c0)).far (p := ⟨w.heap.size, 2, none⟩) (by simp) (.slice A1 y.acts.l.length c1)).far (p := ⟨w.heap.size, 4, none⟩) (by simp) (.slice A2 y.args.l.length c2)).set_ 0 (.string y.name)).set_ 1 (.slice A0 y.keys.l.length c0)).set_ 2 (.slice A1 y.acts.l.length c1)).set_ 3 (.int .i64 y.defA)).set_ 4 (.slice A2 y.args.l.length c2)).set_ 5 (.int .i64 y.size)), ⟨y.name, ⟨y.keys.l, A0, c0⟩, ⟨y.acts.l, A1, c1⟩, y.defA, ⟨y.args.l, A2, c2⟩, y.size⟩, rfl, rfl, ⟨(by refine Own.moves ?_ (Moves.mono (F := fun g => W.heap.size ≤ g) (fun g _ h => Nat.le_trans (by have := HS.out; omega) h)); (repeat refine Own.moves ?_ (Moves.set _ _ _ (fun g (h : W.heap.size ≤ g) => by have := HS.out; first | (show g ≠ w.heap.size; omega) | (show g ≠ w.heap.size + 1; omega)))); exact HO0.out), (by refine Own.moves ?_ (Moves.mono (F := fun g => W.heap.size ≤ g) (fun g _ h => Nat.le_trans (by have := HS.out; omega) h)); (repeat refine Own.moves ?_ (Moves.set _ _ _ (fun g (h : W.heap.size ≤ g) => by have := HS.out; first | (show g ≠ w.heap.size; omega) | (show g ≠ w.heap.size + 1; omega)))); exact HO1.out), (by refine Own.moves ?_ (Moves.mono (F := fun g => W.heap.size ≤ g) (fun g _ h => Nat.le_trans (by have := HS.out; omega) h)); (repeat refine Own.moves ?_ (Moves.set _ _ _ (fun g (h : W.heap.size ≤ g) => by have := HS.out; first | (show g ≠ w.heap.size; omega) | (show g ≠ w.heap.size + 1; omega)))); exact HO2.out)⟩, (by (repeat refine Below.setCell ?_ (by first | exact Nat.le_refl _ | exact Nat.le_succ _) _); exact below_step HW.out HB)⟩

theorem info_tab : (Tryz.prog.info? 52).map (fun i => (i.zero, i.size, i.bytes)) = some (some (.agg #[.string ⟨#[]⟩, .slice none 0 0, .slice none 0 0, .int .i64 0, .slice none 0 0, .int .i64 0]), 6, 104) := by kernel_rfl
theorem cells_tab (u : TabD) : (TabD.cells u).length = 6 := rfl
set_option maxRecDepth 100000 in
set_option maxHeartbeats 8000000 in
theorem cloneTable_any (y : TabD) (w : World) (h : TabOk w y) (hm : TabFit y) :
    Calls Tryz.prog 63 #[.agg #[.string y.name, .slice y.keys.A y.keys.l.length y.keys.c, .slice y.acts.A y.acts.l.length y.acts.c, .int .i64 y.defA, .slice y.args.A y.args.l.length y.args.c, .int .i64 y.size]] w fun e w' => ∃ y' : TabD, e = .returned (.agg #[.string y'.name, .slice y'.keys.A y'.keys.l.length y'.keys.c, .slice y'.acts.A y'.acts.l.length y'.acts.c, .int .i64 y'.defA, .slice y'.args.A y'.args.l.length y'.args.c, .int .i64 y'.size]) ∧ y'.bare = y.bare ∧ TabOwn w' (fun g => w.heap.size ≤ g) y' ∧ Below w.heap.size w w' := by
  obtain ⟨W, hW, hW1, HB, hS, hpq⟩ := boxC w #[.string y.name, .slice y.keys.A y.keys.l.length y.keys.c, .slice y.acts.A y.acts.l.length y.acts.c, .int .i64 y.defA, .slice y.args.A y.args.l.length y.args.c, .int .i64 y.size] 52 #[.string ⟨#[]⟩, .slice none 0 0, .slice none 0 0, .int .i64 0, .slice none 0 0, .int .i64 0] 52
  have HC0 : Hid (∀ u, Below W.heap.size W u → Calls Tryz.prog 131 #[.slice y.keys.A y.keys.l.length y.keys.c] u fun e w2 => ∃ A c, e = .returned (.slice A y.keys.l.length c) ∧ Own w2 (fun g => W.heap.size ≤ g) 133 3 KeyD.cells ⟨y.keys.l, A, c⟩ ∧ Below u.heap.size u w2) :=
    Lib.hid (fun u hb => (clone_key y.keys u (h.keys.below (below_step hW1 hb) (Nat.le_refl _)) hm.1).mono fun e w2 ⟨A, c, h1, h2, h3⟩ => ⟨A, c, h1, h2.moves (Moves.mono fun g _ h => Nat.le_trans hb.size h), h3⟩)
  have HC1 : Hid (∀ u, Below W.heap.size W u → Calls Tryz.prog 68 #[.slice y.acts.A y.acts.l.length y.acts.c] u fun e w2 => ∃ A c, e = .returned (.slice A y.acts.l.length c) ∧ Own w2 (fun g => W.heap.size ≤ g) 3 1 icell ⟨y.acts.l, A, c⟩ ∧ Below u.heap.size u w2) :=
    Lib.hid (fun u hb => (clone_int y.acts u (h.acts.below (below_step hW1 hb) (Nat.le_refl _)) hm.2.1).mono fun e w2 ⟨A, c, h1, h2, h3⟩ => ⟨A, c, h1, h2.moves (Moves.mono fun g _ h => Nat.le_trans hb.size h), h3⟩)
  have HC2 : Hid (∀ u, Below W.heap.size W u → Calls Tryz.prog 132 #[.slice y.args.A y.args.l.length y.args.c] u fun e w2 => ∃ A c, e = .returned (.slice A y.args.l.length c) ∧ Own w2 (fun g => W.heap.size ≤ g) 134 1 ucell ⟨y.args.l, A, c⟩ ∧ Below u.heap.size u w2) :=
    Lib.hid (fun u hb => (clone_u32 y.args u (h.args.below (below_step hW1 hb) (Nat.le_refl _)) hm.2.2).mono fun e w2 ⟨A, c, h1, h2, h3⟩ => ⟨A, c, h1, h2.moves (Moves.mono fun g _ h => Nat.le_trans hb.size h), h3⟩)
  have HQ := Lib.hid (fun w' h => (hpq w' h).2.2.2.2)
  have hp := fun w' h => (⟨(hpq w' h).1, (hpq w' h).2.1, (hpq w' h).2.2.1, (hpq w' h).2.2.2.1⟩ : _ ∧ _ ∧ _ ∧ _)
  clear hpq
  have HW := Lib.hid hW1
  have HS := Lib.hid hS
  clear h hm hW1 hS
  go_enter Tryz.func63, Tryz.ntmps63
  go_upto_region 1 with fail
  rw [← hW]
  clear hW
  go_wp2
  go_region_law (first
    | (go_simp; go_at_call 131; with_reducible (refine (HC0.out _ (by first | exact HB | exact HB.drew)).mono ?_); rintro e w1 ⟨A0, c0, rfl, hO, hb1⟩; have HO0 := Lib.hid hO; replace HB := below_step (by first | exact HB | exact HB.drew) hb1; clear hb1 hO)
    | (go_simp; go_at_call 68; with_reducible (refine (HC1.out _ (by first | exact HB | exact HB.drew)).mono ?_); rintro e w1 ⟨A1, c1, rfl, hO, hb1⟩; have HO1 := Lib.hid hO; replace HO0 := Lib.hid (HO0.out.moves (Moves.below hb1 (Nat.le_refl _))); replace HB := below_step (by first | exact HB | exact HB.drew) hb1; clear hb1 hO)
    | (go_simp; go_at_call 132; with_reducible (refine (HC2.out _ (by first | exact HB | exact HB.drew)).mono ?_); rintro e w1 ⟨A2, c2, rfl, hO, hb1⟩; have HO2 := Lib.hid hO; replace HO0 := Lib.hid (HO0.out.moves (Moves.below hb1 (Nat.le_refl _))); replace HO1 := Lib.hid (HO1.out.moves (Moves.below hb1 (Nat.le_refl _))); replace HB := below_step (by first | exact HB | exact HB.drew) hb1; clear hb1 hO))
  all_goals go_wp2
  all_goals refine bodyPost_ret (v := .agg #[.string y.name, .slice A0 y.keys.l.length c0, .slice A1 y.acts.l.length c1, .int .i64 y.defA, .slice A2 y.args.l.length c2, .int .i64 y.size]) ?_ rfl ?_
  all_goals first
    | exact results_cell_row (fn := Tryz.f63) (p := 2) (ty := 52) rfl _ _ (w.heap.size + 1) 52 #[.string y.name, .slice A0 y.keys.l.length c0, .slice A1 y.acts.l.length c1, .int .i64 y.defA, .slice A2 y.args.l.length c2, .int .i64 y.size] (0, 0) _ rfl (end_tab HS (HQ.out _ HB) HB HW HO0 HO1 HO2).1 Tryz.underlying52 rfl (by kernel_rfl)
    | exact (end_tab HS (HQ.out _ HB) HB HW HO0 HO1 HO2).2
set_option maxRecDepth 100000 in
set_option maxHeartbeats 8000000 in
theorem each_tab (x : L TabD) (w : World) (h : LOk w 6 TabD.cells x) (he : ∀ y ∈ x.l, TabOk w y) (hm : x.l.length ≤ 100) (hf : ∀ y ∈ x.l, TabFit y) :
    Calls Tryz.prog 62 #[x.v, .func (.func 63) #[] #[]] w fun e w' => ∃ x' : L TabD, e = .returned (.slice x'.A x'.l.length x'.c) ∧ x'.l.map TabD.bare = x.l.map TabD.bare ∧
      (Own w' (fun g => w.heap.size ≤ g) 52 6 TabD.cells x' ∧ ∀ s ∈ x'.l, TabOwn w' (fun g => w.heap.size ≤ g) s) ∧ Below w.heap.size w w' := by
  obtain ⟨l, A0, c0⟩ := x
  have HX := Lib.hid h
  have HE := Lib.hid he
  have HF := Lib.hid hf
  clear h he hf
  simp only [L.v] at *
  obtain ⟨i0, hi, hz0, hz1, hz2⟩ := info_parts info_tab
  go_enter Tryz.func62, Tryz.ntmps62
  go_wp2
  go_loopw [5, 7, 10] (fun o xv iv wr => ∃ (k : Nat) (L1 : List TabD) (A : Option Addr) (c : Nat), k ≤ l.length ∧ iv = .int .i64 k ∧ o = .slice A k c ∧ Hid (L1.length = k ∧ L1.map TabD.bare = (l.take k).map TabD.bare ∧ wr.ownsRow w.heap.size 52 6 (.slice A k c) k (L1.flatMap TabD.cells) ∧
      ∀ y ∈ L1, TabOwn wr (fun g => w.heap.size ≤ g ∧ (Value.slice A k c).ownBlock ≠ some g) y) ∧ Below w.heap.size w wr)
    (fun _ _ i _ => l.length - (intOf i).toNat)
  case atStart => exact ⟨0, [], none, 0, Nat.zero_le _, rfl, rfl, Lib.hid ⟨rfl, rfl, World.ownsRow_nil _ _ _ _, fun y hy => by cases hy⟩, Below.refl _ _⟩
  case round =>
    obtain ⟨k, L1, A, c, hk, rfl, rfl, HL, hbel⟩ := hrel
    by_cases hlt : k < l.length
    · obtain ⟨g, of, rfl, d0, d1, d2, d3, d4, d5⟩ := TabD.at (HX.out.below hbel (Nat.le_refl _)) hlt
      simp only at d0 d1 d2 d3 d4 d5
      have HT : Hid ((l.take (k + 1)).map TabD.bare = (l.take k).map TabD.bare ++ [l[k].bare]) := Lib.hid (by rw [List.take_succ_eq_append_getElem hlt, List.map_append]; rfl)
      have HEk : Hid (TabOk w l[k] ∧ TabFit l[k]) := Lib.hid ⟨HE.out _ (List.getElem_mem hlt), HF.out _ (List.getElem_mem hlt)⟩
      generalize l[k] = y at *
      have HB := Lib.hid hbel
      clear hbel
      go_wp2_with fail
      refine (cloneTable_any y _ (HEk.out.1.below (below_alloc HB.out _)) HEk.out.2).mono ?_
      rintro e w1 ⟨y', rfl, hbare, hyo, hb1⟩
      have HY : Hid (y'.bare = y.bare ∧ TabOwn w1 (fun g => wr.heap.size ≤ g) y') := Lib.hid ⟨hbare, hyo.moves (Moves.mono fun g _ h => by simp at h; omega)⟩
      have hb2 : Below wr.heap.size wr w1 := (below_alloc (Below.refl _ _) _).trans (hb1.mono (below_alloc (Below.refl _ _) _).size)
      have hown1 := own_below HL.out.2.2.1 hb2
      have hbel1 := HB.out.trans (hb2.mono HB.out.size)
      have HB2 := Lib.hid hb2
      clear hbare hyo hb1 hb2
      go_wp2_with (first
        | (at_builtin; refine wpList_append_own_at _ rfl _ _ 26 rfl w.heap.size 52 i0 _ 6 104 Tryz.underlying26 hi hz0 hz1 hz2 rfl (by decide) _ _ _ rfl (hown1.alloc _) ⟨w1.heap.size, 0, none⟩ 1 1 [.string y'.name, .slice y'.keys.A y'.keys.l.length y'.keys.c, .slice y'.acts.A y'.acts.l.length y'.acts.c, .int .i64 y'.defA, .slice y'.args.A y'.args.l.length y'.args.c, .int .i64 y'.size] rfl rfl ?c1 ?c2 ?c3 ?c4 ?c5 ?_))
      case c1 => exact new_cells _ _ _
      case c2 => intro u hu; simp only [List.mem_cons, List.not_mem_nil, or_false] at hu; rcases hu with rfl | rfl | rfl | rfl | rfl | rfl <;> rfl
      case c3 => unfold maxLen; omega
      case c4 => omega
      case c5 => have := hbel1.size; simp; omega
      intro v' w2 hown2 hgrow _ hat
      have hbel2 : Below w.heap.size w w2 := (hbel1.alloc hbel1.size _).grown hgrow (hbel1.alloc hbel1.size _).size fun j hj => (hown1.lt j hj).1
      obtain ⟨A', c', rfl⟩ : ∃ A' c', v' = .slice A' (k + 1) c' := by
        rcases hown2.2 with ⟨hv, h0⟩ | ⟨g', cap, cur, hv, _, _, _⟩
        · omega
        · exact ⟨_, _, hv⟩
      have hes := elem_step HL.out.2.2.1 HB2.out HB.out.size hgrow hat
      have HL2 : Hid ((L1 ++ [y']).length = k + 1 ∧ (L1 ++ [y']).map TabD.bare = (l.take (k + 1)).map TabD.bare ∧ w2.ownsRow w.heap.size 52 6 (.slice A' (k + 1) c') (k + 1) ((L1 ++ [y']).flatMap TabD.cells) ∧
          ∀ z ∈ L1 ++ [y'], TabOwn w2 (fun g => w.heap.size ≤ g ∧ (Value.slice A' (k + 1) c').ownBlock ≠ some g) z) := Lib.hid (by
        refine ⟨by rw [List.length_append, HL.out.1]; rfl, by rw [List.map_append, HL.out.2.1, HT.out, ← HY.out.1]; rfl, ?_, fun z hz => ?_⟩
        · rw [List.flatMap_append]
          simpa [TabD.cells] using hown2
        · rcases List.mem_append.1 hz with hz | hz
          · exact (HL.out.2.2.2 z hz).moves hes.1
          · rw [List.mem_singleton] at hz
            subst hz
            exact HY.out.2.moves hes.2)
      generalize L1 ++ [y'] = L2 at HL2
      clear hes hat hgrow hown1 hown2 HL HY HT HEk
      go_wp2
      go_roundw
      case rel => exact ⟨k + 1, L2, A', c', by omega, by go_num, rfl, HL2, hbel2⟩
      case measure => simp [intOf]; omega
    · have hk' : k = l.length := by omega
      subst hk'
      have HR : Hid (∃ x' : L TabD, (.slice A l.length c : Value) = .slice x'.A x'.l.length x'.c ∧ x'.l.map TabD.bare = l.map TabD.bare ∧ (Own wr (fun g => w.heap.size ≤ g) 52 6 TabD.cells x' ∧ ∀ s ∈ x'.l, TabOwn wr (fun g => w.heap.size ≤ g) s)) := Lib.hid (by
        have h := HL.out
        rw [List.take_length] at h
        refine ⟨⟨L1, A, c⟩, by rw [h.1], h.2.1, ⟨?_, fun g hg => ?_⟩, fun s hs => (h.2.2.2 s hs).moves (Moves.mono fun g _ h => h.1)⟩
        · simp only [L.v, h.1]
          exact ownsRow_zero h.2.2.1
        · simp only [L.v, h.1] at hg
          exact (own_lt h.2.2.1 g hg).1)
      clear HL
      go_wp2
      go_ret
      obtain ⟨x', h1, h2, h3⟩ := HR.out
      exact ⟨x', by rw [h1]; rfl, h2, h3, hbel⟩

theorem end_state {y : StateD} {w W w1 : World} (HS : Hid (W.heap.size = w.heap.size + 2)) (hb0 : Blk w1 (w.heap.size + 1) 73 #[.string ⟨#[]⟩, .slice none 0 0, .bool false, .int .i64 0, .int .i64 0, .slice none 0 0, .int .i64 0]) (HB : Below W.heap.size W w1) (HW : Hid (Below w.heap.size w W)) {A0 : Option Addr} {c0 : Nat} (HO0 : Hid (Own w1 (fun g => W.heap.size ≤ g) 3 1 icell ⟨y.extract.l, A0, c0⟩)) {A1 : Option Addr} {c1 : Nat} (HO1 : Hid (Own w1 (fun g => W.heap.size ≤ g) 166 3 CaseD.cells ⟨y.cases.l, A1, c1⟩)) :
    Blk (((((((((w1.setCell ⟨w.heap.size, 1, none⟩ (.slice A0 y.extract.l.length c0)).setCell ⟨w.heap.size, 5, none⟩ (.slice A1 y.cases.l.length c1)).setCell ⟨w.heap.size + 1, 0, none⟩ (.string y.name)).setCell ⟨w.heap.size + 1, 1, none⟩ (.slice A0 y.extract.l.length c0)).setCell ⟨w.heap.size + 1, 2, none⟩ (.bool y.sel)).setCell ⟨w.heap.size + 1, 3, none⟩ (.int .i64 y.oh)).setCell ⟨w.heap.size + 1, 4, none⟩ (.int .i64 y.of)).setCell ⟨w.heap.size + 1, 5, none⟩ (.slice A1 y.cases.l.length c1)).setCell ⟨w.heap.size + 1, 6, none⟩ (.int .i64 y.dflt)) (w.heap.size + 1) 73 #[.string y.name, .slice A0 y.extract.l.length c0, .bool y.sel, .int .i64 y.oh, .int .i64 y.of, .slice A1 y.cases.l.length c1, .int .i64 y.dflt] ∧
    ∃ y' : StateD, Ending.returned (.agg #[.string y.name, .slice A0 y.extract.l.length c0, .bool y.sel, .int .i64 y.oh, .int .i64 y.of, .slice A1 y.cases.l.length c1, .int .i64 y.dflt]) = .returned (.agg #[.string y'.name, .slice y'.extract.A y'.extract.l.length y'.extract.c, .bool y'.sel, .int .i64 y'.oh, .int .i64 y'.of, .slice y'.cases.A y'.cases.l.length y'.cases.c, .int .i64 y'.dflt]) ∧ y'.bare = y.bare ∧ StateOwn (((((((((w1.setCell ⟨w.heap.size, 1, none⟩ (.slice A0 y.extract.l.length c0)).setCell ⟨w.heap.size, 5, none⟩ (.slice A1 y.cases.l.length c1)).setCell ⟨w.heap.size + 1, 0, none⟩ (.string y.name)).setCell ⟨w.heap.size + 1, 1, none⟩ (.slice A0 y.extract.l.length c0)).setCell ⟨w.heap.size + 1, 2, none⟩ (.bool y.sel)).setCell ⟨w.heap.size + 1, 3, none⟩ (.int .i64 y.oh)).setCell ⟨w.heap.size + 1, 4, none⟩ (.int .i64 y.of)).setCell ⟨w.heap.size + 1, 5, none⟩ (.slice A1 y.cases.l.length c1)).setCell ⟨w.heap.size + 1, 6, none⟩ (.int .i64 y.dflt)) (fun g => w.heap.size ≤ g) y' ∧ Below w.heap.size w (((((((((w1.setCell ⟨w.heap.size, 1, none⟩ (.slice A0 y.extract.l.length c0)).setCell ⟨w.heap.size, 5, none⟩ (.slice A1 y.cases.l.length c1)).setCell ⟨w.heap.size + 1, 0, none⟩ (.string y.name)).setCell ⟨w.heap.size + 1, 1, none⟩ (.slice A0 y.extract.l.length c0)).setCell ⟨w.heap.size + 1, 2, none⟩ (.bool y.sel)).setCell ⟨w.heap.size + 1, 3, none⟩ (.int .i64 y.oh)).setCell ⟨w.heap.size + 1, 4, none⟩ (.int .i64 y.of)).setCell ⟨w.heap.size + 1, 5, none⟩ (.slice A1 y.cases.l.length c1)).setCell ⟨w.heap.size + 1, 6, none⟩ (.int .i64 y.dflt)) := by
  refine ⟨(((((((((hb0.far (p := ⟨w.heap.size, 1, none⟩) (by simp) (.slice A0 y.extract.l.length c0)).far (p := ⟨w.heap.size, 5, none⟩) (by simp) (.slice A1 y.cases.l.length c1)).set_ 0 (.string y.name)).set_ 1 (.slice A0 y.extract.l.length c0)).set_ 2 (.bool y.sel)).set_ 3 (.int .i64 y.oh)).set_ 4 (.int .i64 y.of)).set_ 5 (.slice A1 y.cases.l.length c1)).set_ 6 (.int .i64 y.dflt)), ⟨y.name, ⟨y.extract.l, A0, c0⟩, y.sel, y.oh, y.of, ⟨y.cases.l, A1, c1⟩, y.dflt⟩, rfl, rfl, ⟨(by refine Own.moves ?_ (Moves.mono (F := fun g => W.heap.size ≤ g) (fun g _ h => Nat.le_trans (by have := HS.out; omega) h)); (repeat refine Own.moves ?_ (Moves.set _ _ _ (fun g (h : W.heap.size ≤ g) => by have := HS.out; first | (show g ≠ w.heap.size; omega) | (show g ≠ w.heap.size + 1; omega)))); exact HO0.out), (by refine Own.moves ?_ (Moves.mono (F := fun g => W.heap.size ≤ g) (fun g _ h => Nat.le_trans (by have := HS.out; omega) h)); (repeat refine Own.moves ?_ (Moves.set _ _ _ (fun g (h : W.heap.size ≤ g) => by have := HS.out; first | (show g ≠ w.heap.size; omega) | (show g ≠ w.heap.size + 1; omega)))); exact HO1.out)⟩, (by (repeat refine Below.setCell ?_ (by first | exact Nat.le_refl _ | exact Nat.le_succ _) _); exact below_step HW.out HB)⟩

theorem info_state : (Tryz.prog.info? 73).map (fun i => (i.zero, i.size, i.bytes)) = some (some (.agg #[.string ⟨#[]⟩, .slice none 0 0, .bool false, .int .i64 0, .int .i64 0, .slice none 0 0, .int .i64 0]), 7, 96) := by kernel_rfl
theorem cells_state (u : StateD) : (StateD.cells u).length = 7 := rfl
set_option maxRecDepth 100000 in
set_option maxHeartbeats 8000000 in
theorem cloneState_any (y : StateD) (w : World) (h : StateOk w y) (hm : StateFit y) :
    Calls Tryz.prog 65 #[.agg #[.string y.name, .slice y.extract.A y.extract.l.length y.extract.c, .bool y.sel, .int .i64 y.oh, .int .i64 y.of, .slice y.cases.A y.cases.l.length y.cases.c, .int .i64 y.dflt]] w fun e w' => ∃ y' : StateD, e = .returned (.agg #[.string y'.name, .slice y'.extract.A y'.extract.l.length y'.extract.c, .bool y'.sel, .int .i64 y'.oh, .int .i64 y'.of, .slice y'.cases.A y'.cases.l.length y'.cases.c, .int .i64 y'.dflt]) ∧ y'.bare = y.bare ∧ StateOwn w' (fun g => w.heap.size ≤ g) y' ∧ Below w.heap.size w w' := by
  obtain ⟨W, hW, hW1, HB, hS, hpq⟩ := boxC w #[.string y.name, .slice y.extract.A y.extract.l.length y.extract.c, .bool y.sel, .int .i64 y.oh, .int .i64 y.of, .slice y.cases.A y.cases.l.length y.cases.c, .int .i64 y.dflt] 73 #[.string ⟨#[]⟩, .slice none 0 0, .bool false, .int .i64 0, .int .i64 0, .slice none 0 0, .int .i64 0] 73
  have HC0 : Hid (∀ u, Below W.heap.size W u → Calls Tryz.prog 68 #[.slice y.extract.A y.extract.l.length y.extract.c] u fun e w2 => ∃ A c, e = .returned (.slice A y.extract.l.length c) ∧ Own w2 (fun g => W.heap.size ≤ g) 3 1 icell ⟨y.extract.l, A, c⟩ ∧ Below u.heap.size u w2) :=
    Lib.hid (fun u hb => (clone_int y.extract u (h.extract.below (below_step hW1 hb) (Nat.le_refl _)) hm.1).mono fun e w2 ⟨A, c, h1, h2, h3⟩ => ⟨A, c, h1, h2.moves (Moves.mono fun g _ h => Nat.le_trans hb.size h), h3⟩)
  have HC1 : Hid (∀ u, Below W.heap.size W u → Calls Tryz.prog 133 #[.slice y.cases.A y.cases.l.length y.cases.c] u fun e w2 => ∃ A c, e = .returned (.slice A y.cases.l.length c) ∧ Own w2 (fun g => W.heap.size ≤ g) 166 3 CaseD.cells ⟨y.cases.l, A, c⟩ ∧ Below u.heap.size u w2) :=
    Lib.hid (fun u hb => (clone_case y.cases u (h.cases.below (below_step hW1 hb) (Nat.le_refl _)) hm.2).mono fun e w2 ⟨A, c, h1, h2, h3⟩ => ⟨A, c, h1, h2.moves (Moves.mono fun g _ h => Nat.le_trans hb.size h), h3⟩)
  have HQ := Lib.hid (fun w' h => (hpq w' h).2.2.2.2)
  have hp := fun w' h => (⟨(hpq w' h).1, (hpq w' h).2.1, (hpq w' h).2.2.1, (hpq w' h).2.2.2.1⟩ : _ ∧ _ ∧ _ ∧ _)
  clear hpq
  have HW := Lib.hid hW1
  have HS := Lib.hid hS
  clear h hm hW1 hS
  go_enter Tryz.func65, Tryz.ntmps65
  go_upto_region 1 with fail
  rw [← hW]
  clear hW
  go_wp2
  go_region_law (first
    | (go_simp; go_at_call 68; with_reducible (refine (HC0.out _ (by first | exact HB | exact HB.drew)).mono ?_); rintro e w1 ⟨A0, c0, rfl, hO, hb1⟩; have HO0 := Lib.hid hO; replace HB := below_step (by first | exact HB | exact HB.drew) hb1; clear hb1 hO)
    | (go_simp; go_at_call 133; with_reducible (refine (HC1.out _ (by first | exact HB | exact HB.drew)).mono ?_); rintro e w1 ⟨A1, c1, rfl, hO, hb1⟩; have HO1 := Lib.hid hO; replace HO0 := Lib.hid (HO0.out.moves (Moves.below hb1 (Nat.le_refl _))); replace HB := below_step (by first | exact HB | exact HB.drew) hb1; clear hb1 hO))
  all_goals go_wp2
  all_goals refine bodyPost_ret (v := .agg #[.string y.name, .slice A0 y.extract.l.length c0, .bool y.sel, .int .i64 y.oh, .int .i64 y.of, .slice A1 y.cases.l.length c1, .int .i64 y.dflt]) ?_ rfl ?_
  all_goals first
    | exact results_cell_row (fn := Tryz.f65) (p := 2) (ty := 73) rfl _ _ (w.heap.size + 1) 73 #[.string y.name, .slice A0 y.extract.l.length c0, .bool y.sel, .int .i64 y.oh, .int .i64 y.of, .slice A1 y.cases.l.length c1, .int .i64 y.dflt] (0, 0) _ rfl (end_state HS (HQ.out _ HB) HB HW HO0 HO1).1 Tryz.underlying73 rfl (by kernel_rfl)
    | exact (end_state HS (HQ.out _ HB) HB HW HO0 HO1).2
set_option maxRecDepth 100000 in
set_option maxHeartbeats 8000000 in
theorem each_state (x : L StateD) (w : World) (h : LOk w 7 StateD.cells x) (he : ∀ y ∈ x.l, StateOk w y) (hm : x.l.length ≤ 100) (hf : ∀ y ∈ x.l, StateFit y) :
    Calls Tryz.prog 64 #[x.v, .func (.func 65) #[] #[]] w fun e w' => ∃ x' : L StateD, e = .returned (.slice x'.A x'.l.length x'.c) ∧ x'.l.map StateD.bare = x.l.map StateD.bare ∧
      (Own w' (fun g => w.heap.size ≤ g) 73 7 StateD.cells x' ∧ ∀ s ∈ x'.l, StateOwn w' (fun g => w.heap.size ≤ g) s) ∧ Below w.heap.size w w' := by
  obtain ⟨l, A0, c0⟩ := x
  have HX := Lib.hid h
  have HE := Lib.hid he
  have HF := Lib.hid hf
  clear h he hf
  simp only [L.v] at *
  obtain ⟨i0, hi, hz0, hz1, hz2⟩ := info_parts info_state
  go_enter Tryz.func64, Tryz.ntmps64
  go_wp2
  go_loopw [5, 7, 10] (fun o xv iv wr => ∃ (k : Nat) (L1 : List StateD) (A : Option Addr) (c : Nat), k ≤ l.length ∧ iv = .int .i64 k ∧ o = .slice A k c ∧ Hid (L1.length = k ∧ L1.map StateD.bare = (l.take k).map StateD.bare ∧ wr.ownsRow w.heap.size 73 7 (.slice A k c) k (L1.flatMap StateD.cells) ∧
      ∀ y ∈ L1, StateOwn wr (fun g => w.heap.size ≤ g ∧ (Value.slice A k c).ownBlock ≠ some g) y) ∧ Below w.heap.size w wr)
    (fun _ _ i _ => l.length - (intOf i).toNat)
  case atStart => exact ⟨0, [], none, 0, Nat.zero_le _, rfl, rfl, Lib.hid ⟨rfl, rfl, World.ownsRow_nil _ _ _ _, fun y hy => by cases hy⟩, Below.refl _ _⟩
  case round =>
    obtain ⟨k, L1, A, c, hk, rfl, rfl, HL, hbel⟩ := hrel
    by_cases hlt : k < l.length
    · obtain ⟨g, of, rfl, d0, d1, d2, d3, d4, d5, d6⟩ := StateD.at (HX.out.below hbel (Nat.le_refl _)) hlt
      simp only at d0 d1 d2 d3 d4 d5 d6
      have HT : Hid ((l.take (k + 1)).map StateD.bare = (l.take k).map StateD.bare ++ [l[k].bare]) := Lib.hid (by rw [List.take_succ_eq_append_getElem hlt, List.map_append]; rfl)
      have HEk : Hid (StateOk w l[k] ∧ StateFit l[k]) := Lib.hid ⟨HE.out _ (List.getElem_mem hlt), HF.out _ (List.getElem_mem hlt)⟩
      generalize l[k] = y at *
      have HB := Lib.hid hbel
      clear hbel
      go_wp2_with fail
      refine (cloneState_any y _ (HEk.out.1.below (below_alloc HB.out _)) HEk.out.2).mono ?_
      rintro e w1 ⟨y', rfl, hbare, hyo, hb1⟩
      have HY : Hid (y'.bare = y.bare ∧ StateOwn w1 (fun g => wr.heap.size ≤ g) y') := Lib.hid ⟨hbare, hyo.moves (Moves.mono fun g _ h => by simp at h; omega)⟩
      have hb2 : Below wr.heap.size wr w1 := (below_alloc (Below.refl _ _) _).trans (hb1.mono (below_alloc (Below.refl _ _) _).size)
      have hown1 := own_below HL.out.2.2.1 hb2
      have hbel1 := HB.out.trans (hb2.mono HB.out.size)
      have HB2 := Lib.hid hb2
      clear hbare hyo hb1 hb2
      go_wp2_with (first
        | (at_builtin; refine wpList_append_own_at _ rfl _ _ 27 rfl w.heap.size 73 i0 _ 7 96 Tryz.underlying27 hi hz0 hz1 hz2 rfl (by decide) _ _ _ rfl (hown1.alloc _) ⟨w1.heap.size, 0, none⟩ 1 1 [.string y'.name, .slice y'.extract.A y'.extract.l.length y'.extract.c, .bool y'.sel, .int .i64 y'.oh, .int .i64 y'.of, .slice y'.cases.A y'.cases.l.length y'.cases.c, .int .i64 y'.dflt] rfl rfl ?c1 ?c2 ?c3 ?c4 ?c5 ?_))
      case c1 => exact new_cells _ _ _
      case c2 => intro u hu; simp only [List.mem_cons, List.not_mem_nil, or_false] at hu; rcases hu with rfl | rfl | rfl | rfl | rfl | rfl | rfl <;> rfl
      case c3 => unfold maxLen; omega
      case c4 => omega
      case c5 => have := hbel1.size; simp; omega
      intro v' w2 hown2 hgrow _ hat
      have hbel2 : Below w.heap.size w w2 := (hbel1.alloc hbel1.size _).grown hgrow (hbel1.alloc hbel1.size _).size fun j hj => (hown1.lt j hj).1
      obtain ⟨A', c', rfl⟩ : ∃ A' c', v' = .slice A' (k + 1) c' := by
        rcases hown2.2 with ⟨hv, h0⟩ | ⟨g', cap, cur, hv, _, _, _⟩
        · omega
        · exact ⟨_, _, hv⟩
      have hes := elem_step HL.out.2.2.1 HB2.out HB.out.size hgrow hat
      have HL2 : Hid ((L1 ++ [y']).length = k + 1 ∧ (L1 ++ [y']).map StateD.bare = (l.take (k + 1)).map StateD.bare ∧ w2.ownsRow w.heap.size 73 7 (.slice A' (k + 1) c') (k + 1) ((L1 ++ [y']).flatMap StateD.cells) ∧
          ∀ z ∈ L1 ++ [y'], StateOwn w2 (fun g => w.heap.size ≤ g ∧ (Value.slice A' (k + 1) c').ownBlock ≠ some g) z) := Lib.hid (by
        refine ⟨by rw [List.length_append, HL.out.1]; rfl, by rw [List.map_append, HL.out.2.1, HT.out, ← HY.out.1]; rfl, ?_, fun z hz => ?_⟩
        · rw [List.flatMap_append]
          simpa [StateD.cells] using hown2
        · rcases List.mem_append.1 hz with hz | hz
          · exact (HL.out.2.2.2 z hz).moves hes.1
          · rw [List.mem_singleton] at hz
            subst hz
            exact HY.out.2.moves hes.2)
      generalize L1 ++ [y'] = L2 at HL2
      clear hes hat hgrow hown1 hown2 HL HY HT HEk
      go_wp2
      go_roundw
      case rel => exact ⟨k + 1, L2, A', c', by omega, by go_num, rfl, HL2, hbel2⟩
      case measure => simp [intOf]; omega
    · have hk' : k = l.length := by omega
      subst hk'
      have HR : Hid (∃ x' : L StateD, (.slice A l.length c : Value) = .slice x'.A x'.l.length x'.c ∧ x'.l.map StateD.bare = l.map StateD.bare ∧ (Own wr (fun g => w.heap.size ≤ g) 73 7 StateD.cells x' ∧ ∀ s ∈ x'.l, StateOwn wr (fun g => w.heap.size ≤ g) s)) := Lib.hid (by
        have h := HL.out
        rw [List.take_length] at h
        refine ⟨⟨L1, A, c⟩, by rw [h.1], h.2.1, ⟨?_, fun g hg => ?_⟩, fun s hs => (h.2.2.2 s hs).moves (Moves.mono fun g _ h => h.1)⟩
        · simp only [L.v, h.1]
          exact ownsRow_zero h.2.2.1
        · simp only [L.v, h.1] at hg
          exact (own_lt h.2.2.1 g hg).1)
      clear HL
      go_wp2
      go_ret
      obtain ⟨x', h1, h2, h3⟩ := HR.out
      exact ⟨x', by rw [h1]; rfl, h2, h3, hbel⟩

end Go.Proofs.YtgfbikknkcaneaaGreat

