/- Walks of action.CheckCall, table's checks at the small programs. -/
import Derived.Test.YtgfbikknkcaneaaPgD
import Derived.Maps.OwnSet
namespace Go.Proofs.Ytgfbikknkcaneaa
open Go.RowKit Go.Maps

theorem SmAt.tabs {w : World} {s : Sm} (h : SmAt w s) : w.cell? ⟨s.tg, s.tof, none⟩ = some (.string ⟨#[116]⟩) ∧ w.cell? ⟨s.tg, s.tof + 1, none⟩ = some (.slice s.kA s.nk s.kc) ∧
    w.cell? ⟨s.tg, s.tof + 2, none⟩ = some (.slice (some ⟨s.ig, s.io, none⟩) 1 s.ic) ∧ w.cell? ⟨s.tg, s.tof + 3, none⟩ = some (.int .i64 0) ∧ w.cell? ⟨s.tg, s.tof + 4, none⟩ = some (.slice s.dA s.np s.dc) ∧
    w.cell? ⟨s.tg, s.tof + 5, none⟩ = some (.int .i64 s.size) := by
  obtain ⟨g, o, e, c0, c1, c2, c3, c4, c5⟩ := TabD.at h.ok.tables (show 0 < 1 by omega)
  simp only [Sm.prog, Option.some.injEq, Addr.mk.injEq, and_true] at e
  obtain ⟨rfl, rfl⟩ := e
  have h1 := s.klen
  have h2 := s.alen
  simp [Sm.prog, Sm.tab, L.v, h1, h2] at c0 c1 c2 c3 c4 c5
  exact ⟨c0, c1, c2, c3, c4, c5⟩
theorem SmAt.tabok {w : World} {s : Sm} (h : SmAt w s) : TabOk w s.tab := h.ok.tab s.tab (by simp [Sm.prog])
theorem SmAt.acts {w : World} {s : Sm} (h : SmAt w s) : w.cell? ⟨s.ig, s.io, none⟩ = some (.int .i64 0) := by
  obtain ⟨g, o, e, c0⟩ := icell_at (x := s.tab.acts) h.tabok.acts (i := 0) (show 0 < 1 by omega)
  simp only [Sm.tab, Option.some.injEq, Addr.mk.injEq, and_true] at e
  obtain ⟨rfl, rfl⟩ := e
  exact c0
theorem SmAt.arg {w : World} {s : Sm} (h : SmAt w s) (hn : s.np = 1) : ∃ g o, s.dA = some ⟨g, o, none⟩ ∧ w.cell? ⟨g, o, none⟩ = some (.int .u32 0) := by
  obtain ⟨g, o, e, c0⟩ := ucell_at (x := s.tab.args) h.tabok.args (i := 0) (show 0 < s.args.l.length by rw [Sm.alen, hn]; exact Nat.one_pos)
  refine ⟨g, o, e, ?_⟩
  simpa [Sm.tab, Sm.args, hn] using c0
theorem SmAt.key {w : World} {s : Sm} (h : SmAt w s) {i : Nat} (hi : i < s.nk) : ∃ g o, s.kA = some ⟨g, o, none⟩ ∧ w.cell? ⟨g, o + i * 3, none⟩ = some (.int .i64 (-1)) ∧ w.cell? ⟨g, o + i * 3 + 1, none⟩ = some (.int .i64 0) ∧ w.cell? ⟨g, o + i * 3 + 2, none⟩ = some (.int .i64 s.kd) := by
  obtain ⟨g, o, e, c0, c1, c2⟩ := KeyD.at (x := s.tab.keys) h.tabok.keys (i := i) (show i < s.keys.l.length by rw [Sm.klen]; exact hi)
  refine ⟨g, o, e, ?_, ?_, ?_⟩
  · simpa [Sm.tab, Sm.keys] using c0
  · simpa [Sm.tab, Sm.keys] using c1
  · simpa [Sm.tab, Sm.keys] using c2

set_option maxRecDepth 100000 in
set_option maxHeartbeats 1000000 in
theorem checkCall_ok (s : Sm) (w : World) (h : SmAt w s) (o : SmOk s) :
    Calls Try.prog 84 #[s.prog.val, .agg #[.int .i64 0, .slice s.dA s.np s.dc]] w fun e w' => e = .returned (.int .i64 0) ∧ Below w.heap.size w w' := by
  have hca := @World.cell?_alloc_some
  obtain ⟨c0, c1, c2⟩ := h.act
  rw [Sm.val]
  rcases hp : s.pw with _ | n
  · have e0 : s.np = 0 := by rw [Sm.np, hp]
    rw [e0] at c1 ⊢
    clear hp e0 h o
    go_enter Try.func84, Try.ntmps84
    go_wp2
    refine wp_loop_rounds 1 ?_
    rw [rounds_succ]
    go_wp2
    go_ret
    exact ⟨rfl, below2 _ _ _⟩
  · have e0 : s.np = 1 := by rw [Sm.np, hp]
    rw [e0] at c1 ⊢
    obtain ⟨g, of, hA, p0, p1⟩ := h.par hp
    obtain ⟨g2, of2, hA2, q0⟩ := h.arg e0
    rw [hA] at c1
    rw [hA2]
    have hn := o.pw n hp
    have HF := Lib.hid (show fitsM 0 n = true by
      have : okW n = true := by simp [okW]; omega
      rw [fitsM, this]; simp)
    clear hp e0 hA hA2 o h hn
    go_enter Try.func84, Try.ntmps84
    go_wp2
    refine wp_loop_rounds 2 ?_
    rw [rounds_succ]
    go_wp2_with fail
    refine (fits_any 0 n _).mono ?_
    rintro e w1 ⟨rfl, hb1⟩
    rw [HF.out]
    have HB1 := Lib.hid (below_step (below2 _ _ _) hb1)
    go_wp2
    rw [rounds_succ]
    go_wp2
    go_ret
    exact ⟨rfl, HB1.out⟩

theorem lookup_bool {P : Program} {w : World} {t k e : TypeId} {b n : Nat} {D : DataW Unit} (h : w.ownsMap P k (plainElem P e) b n D) (K : Keyed P k) (ht : P.underlying t = some (.map k e)) (he : P.underlying e = some .bool)
    (hz : (zeroValue e).run P w = .ok (.bool false) w) {key : Value} {kl : Lit} (hkey : keyOf P k key = some kl) (x : Bool) (hat : D.atKey kl (.lit (.bool false)) = .lit (.bool x)) :
    (Instr.lookup t (.map (some b)) key false).run P w = .ok (.bool x) w := by
  obtain ⟨v, ps, hrun, hv⟩ := h.lookup K ht hz (plainElem_bool he false) hkey
  rw [hat] at hv
  rw [hrun]
  cases v <;> simp_all [plainElem]
theorem keyInt : Keyed Try.prog 3 := int_keyed Try.underlying3
theorem zeroBool (w : World) : (zeroValue 4).run Try.prog w = .ok (.bool false) w := by kernel_rfl
/-- the set of the one action of the small program -/
def oneAct : DataW Unit := (DataW.map []).put (.int .i64 0) (.lit (.bool true))

theorem sm_box3 (w : World) (s : Sm) : ∃ W, W = (w.alloc (.cells #[.string ⟨#[112]⟩, .slice s.hA 0 s.hc, .slice (some ⟨s.mg, s.mo, none⟩) 3 s.mc, .slice s.rA 0 s.rc, .slice (some ⟨s.ag, s.ao, none⟩) 1 s.ac,
      .slice (some ⟨s.tg, s.tof, none⟩) 1 s.tc, .slice (some ⟨s.sg, s.so, none⟩) 1 s.sc, .slice s.xA 0 s.xc, .slice s.yA 0 s.yc] 42)).alloc (.cells #[.string ⟨#[116]⟩, .slice s.kA s.nk s.kc, .slice (some ⟨s.ig, s.io, none⟩) 1 s.ic, .int .i64 0, .slice s.dA s.np s.dc, .int .i64 s.size] 60) ∧
    Below w.heap.size w W ∧ (∀ w', Below W.heap.size W w' →
      (w'.cell? ⟨w.heap.size, 0, none⟩ = some (.string ⟨#[112]⟩) ∧ w'.cell? ⟨w.heap.size, 1, none⟩ = some (.slice s.hA 0 s.hc) ∧
       w'.cell? ⟨w.heap.size, 2, none⟩ = some (.slice (some ⟨s.mg, s.mo, none⟩) 3 s.mc) ∧ w'.cell? ⟨w.heap.size, 3, none⟩ = some (.slice s.rA 0 s.rc) ∧
       w'.cell? ⟨w.heap.size, 4, none⟩ = some (.slice (some ⟨s.ag, s.ao, none⟩) 1 s.ac) ∧ w'.cell? ⟨w.heap.size, 5, none⟩ = some (.slice (some ⟨s.tg, s.tof, none⟩) 1 s.tc) ∧
       w'.cell? ⟨w.heap.size, 6, none⟩ = some (.slice (some ⟨s.sg, s.so, none⟩) 1 s.sc) ∧ w'.cell? ⟨w.heap.size, 7, none⟩ = some (.slice s.xA 0 s.xc) ∧
       w'.cell? ⟨w.heap.size, 8, none⟩ = some (.slice s.yA 0 s.yc)) ∧
      w'.cell? ⟨w.heap.size + 1, 0, none⟩ = some (.string ⟨#[116]⟩) ∧ w'.cell? ⟨w.heap.size + 1, 1, none⟩ = some (.slice s.kA s.nk s.kc) ∧ w'.cell? ⟨w.heap.size + 1, 2, none⟩ = some (.slice (some ⟨s.ig, s.io, none⟩) 1 s.ic) ∧
      w'.cell? ⟨w.heap.size + 1, 3, none⟩ = some (.int .i64 0) ∧ w'.cell? ⟨w.heap.size + 1, 4, none⟩ = some (.slice s.dA s.np s.dc) ∧ w'.cell? ⟨w.heap.size + 1, 5, none⟩ = some (.int .i64 s.size)) ∧ W.heap.size = w.heap.size + 2 := by
  refine ⟨_, rfl, below2 _ _ _, fun w' hb => ⟨⟨?_, ?_, ?_, ?_, ?_, ?_, ?_, ?_, ?_⟩, ?_, ?_, ?_, ?_, ?_, ?_⟩, by simp⟩ <;> exact below_cell hb (by simp)

set_option maxRecDepth 100000 in
set_option maxHeartbeats 2000000 in
theorem checkActions_ok (s : Sm) (w : World) (h : SmAt w s) (o : SmOk s) :
    Calls Try.prog 62 #[s.prog.val, .agg #[.string ⟨#[116]⟩, .slice s.kA s.nk s.kc, .slice (some ⟨s.ig, s.io, none⟩) 1 s.ic, .int .i64 0, .slice s.dA s.np s.dc, .int .i64 s.size]] w
      fun e w' => e = .returned (.int .i64 0) ∧ Below w.heap.size w w' := by
  have hmm := @run_makeMap Try.prog
  have HA := Lib.hid h
  have HO := Lib.hid o
  obtain ⟨W, hW, hb, hp, hsz⟩ := sm_box3 w s
  have HB := Lib.hid hb
  have hi : ∀ w', Below W.heap.size W w' → w'.cell? ⟨s.ig, s.io, none⟩ = some (.int .i64 0) := fun w' h => below_cell (below_step HB.out h) HA.out.acts
  obtain ⟨W1, hW1⟩ : ∃ W1, W1 = W.alloc (.map #[] 0) := ⟨_, rfl⟩
  have b1 : Below W.heap.size W W1 := by rw [hW1]; exact below1 _ _
  have hown : W1.ownsMap Try.prog 3 (plainElem (H := Unit) Try.prog 4) (w.heap.size + 2) 0 (.map []) := by rw [hW1, ← hsz]; exact World.ownsMap_made _ _ _ _
  have HOW := Lib.hid hown
  have hl0 := lookup_bool (t := 147) hown keyInt Try.underlying147 Try.underlying4 (zeroBool _) (keyOf_int_mk Try.underlying3 (a := 0) (by decide)) false (by rfl)
  have HSZ := Lib.hid hsz
  clear h o hb hown hsz
  rw [Sm.val]
  go_enter Try.func62, Try.ntmps62
  go_wp2
  rw [← hW, ← hW1]
  clear hW hW1
  refine wp_loop_rounds 2 ?_
  rw [rounds_succ]
  go_wp2_with (first
    | (at_mapUpdate; refine wpList_mapUpdate_own _ rfl _ _ _ 147 rfl 3 4 keyInt Try.underlying147 (plainElem (H := Unit) Try.prog 4) (w.heap.size + 2) 0 (.map []) rfl HOW.out ?m1 _ _ (.int .i64 0) rfl rfl ?m2 (.lit (.bool true)) [] ?m3 ?_))
  case m1 => unfold maxLen; omega
  case m2 => exact keyOf_int_mk Try.underlying3 (by decide)
  case m3 => exact plainElem_bool Try.underlying4 true
  intro w2 hown2 hgrow2
  have b2 : Below W.heap.size W w2 := b1.grown hgrow2 b1.size fun j hj => by have := HSZ.out; simp at hj; omega
  have hl1 := lookup_bool (t := 147) hown2 keyInt Try.underlying147 Try.underlying4 (zeroBool _) (keyOf_int_mk Try.underlying3 (a := 0) (by decide)) true (by rfl)
  clear hown2 hgrow2 hl0
  go_wp2
  rw [rounds_succ]
  go_wp2_with fail
  refine (checkCall_ok s _ (HA.out.below (below_step HB.out b2)) HO.out).mono ?_
  rintro e w3 ⟨rfl, hb3⟩
  go_wp2
  go_ret
  exact ⟨rfl, below_step (below_step HB.out b2) hb3⟩
end Go.Proofs.Ytgfbikknkcaneaa

