/- Memory in which integers of own blocks have been overwritten. No condition. The walk of law 21's spoilControl. No condition but that the nodes lie in blocks of the call's own. The walk of law 21's spoilRest. No condition but that the program lies in blocks of the call's own. -/
import Derived.Test.YtgfbikknkcaneaaGreatGc
import Derived.Test.YtgfbikknkcaneaaGreatCkS
namespace Go.Proofs.YtgfbikknkcaneaaGreat
open Go.RowKit

/-- of w nothing has turned in w' but integers in blocks of F -/
structure Sp (F : Nat → Prop) (w w' : World) : Prop where
  os : w'.os = w.os
  tape : w'.tape = w.tape
  output : w'.output = w.output
  size : w.heap.size ≤ w'.heap.size
  block : ∀ g, g < w.heap.size → ¬ F g → w'.heap[g]? = w.heap[g]?
  cell : ∀ g q v, w.cell? ⟨g, q, none⟩ = some v → w'.cell? ⟨g, q, none⟩ = some v ∨ ∃ kd x y, v = .int kd x ∧ w'.cell? ⟨g, q, none⟩ = some (.int kd y)
  frozen : ∀ a : Addr, a.block < w.heap.size → w'.frozen? a = w.frozen? a
section
variable {F : Nat → Prop} {w w' w'' : World}
theorem Sp.of_below (h : Below w.heap.size w w') : Sp F w w' :=
  ⟨h.os, h.tape, h.output, h.size, fun g hg _ => h.block g hg, fun _ _ _ hv => .inl (below_cell h hv), fun _ ha => h.frozen ha⟩
theorem Sp.refl (F : Nat → Prop) (w : World) : Sp F w w := Sp.of_below (Below.refl _ _)
theorem Sp.trans (h : Sp F w w') (k : Sp F w' w'') : Sp F w w'' := by
  refine ⟨k.os.trans h.os, k.tape.trans h.tape, k.output.trans h.output, Nat.le_trans h.size k.size, fun g hg hF => (k.block g (Nat.lt_of_lt_of_le hg h.size) hF).trans (h.block g hg hF), fun g q v hv => ?_, fun a ha => (k.frozen a (Nat.lt_of_lt_of_le ha h.size)).trans (h.frozen a ha)⟩
  rcases h.cell g q v hv with h1 | ⟨kd, x, y, rfl, h1⟩
  · exact k.cell g q v h1
  · rcases k.cell g q _ h1 with h2 | ⟨kd2, x2, y2, e, h2⟩
    · exact .inr ⟨kd, x, y, rfl, h2⟩
    · cases e
      exact .inr ⟨kd, x, y2, rfl, h2⟩
theorem Sp.drew (h : Sp F w w') : Sp F w w'.drew := ⟨h.os, h.tape, h.output, h.size, h.block, h.cell, h.frozen⟩
theorem Sp.alloc (h : Sp F w w') (o : Obj) : Sp F w (w'.alloc o) := h.trans (Sp.of_below (below1 _ _))
theorem Sp.below {B : Nat} (h : Sp F w w') (hB : B ≤ w.heap.size) (hF : ∀ g, g < B → ¬ F g) : Below B w w' :=
  ⟨h.os, h.tape, h.output, h.size, fun g hg => h.block g (Nat.lt_of_lt_of_le hg hB) (hF g hg)⟩
theorem Sp.moves {G : Nat → Prop} (h : Sp F w w') (hG : ∀ g, G g → ¬ F g) : Moves G w G w' := fun g hg hGg => ⟨hGg, h.block g hg (hG g hGg)⟩
theorem Sp.str {g q : Nat} {s : ByteArray} (h : Sp F w w') (hc : w.cell? ⟨g, q, none⟩ = some (.string s)) : w'.cell? ⟨g, q, none⟩ = some (.string s) := by
  rcases h.cell g q _ hc with h1 | ⟨kd, x, y, e, h1⟩
  · exact h1
  · cases e
theorem Sp.sl {g q : Nat} {A : Option Addr} {n c : Nat} (h : Sp F w w') (hc : w.cell? ⟨g, q, none⟩ = some (.slice A n c)) : w'.cell? ⟨g, q, none⟩ = some (.slice A n c) := by
  rcases h.cell g q _ hc with h1 | ⟨kd, x, y, e, h1⟩
  · exact h1
  · cases e
theorem Sp.bool {g q : Nat} {b : Bool} (h : Sp F w w') (hc : w.cell? ⟨g, q, none⟩ = some (.bool b)) : w'.cell? ⟨g, q, none⟩ = some (.bool b) := by
  rcases h.cell g q _ hc with h1 | ⟨kd, x, y, e, h1⟩
  · exact h1
  · cases e
theorem Sp.int {g q : Nat} {kd : IntKind} {a : Int} (h : Sp F w w') (hc : w.cell? ⟨g, q, none⟩ = some (.int kd a)) : ∃ b, w'.cell? ⟨g, q, none⟩ = some (.int kd b) := by
  rcases h.cell g q _ hc with h1 | ⟨kd2, x, y, e, h1⟩
  · exact ⟨a, h1⟩
  · cases e
    exact ⟨y, h1⟩
theorem Sp.thaw {a : Addr} {v : Value} (h : Sp F w w') (hc : w.cell? a = some v) (hz : w.frozen? a = false) : w'.frozen? a = false :=
  (h.frozen a (World.block_lt_of_cell? w a hc)).trans hz
/-- a store of an integer into a cell of a block of F that held one of its kind -/
theorem Sp.store {g q : Nat} {kd : IntKind} {a : Int} (h : Sp F w w') (hF : F g) (hc : w.cell? ⟨g, q, none⟩ = some (.int kd a)) (y : Int) : Sp F w (w'.setCell ⟨g, q, none⟩ (.int kd y)) := by
  obtain ⟨b, hb⟩ := h.int hc
  refine ⟨h.os, h.tape, h.output, by simpa [World.setCell] using h.size, fun g' hg' hF' => ?_, fun g' q' v hv => ?_, fun a ha => by rw [World.frozen?_setCell]; exact h.frozen a ha⟩
  · exact (Below.heap_setCell _ _ _ g' (fun e => hF' (by rw [e]; exact hF))).trans (h.block g' hg' hF')
  · by_cases e : (⟨g, q, none⟩ : Addr) = ⟨g', q', none⟩
    · rw [← e] at hv ⊢
      rw [hc] at hv
      cases hv
      exact .inr ⟨kd, a, y, rfl, World.cell?_setCell_same _ _ _ hb⟩
    · rw [World.cell?_setCell_other _ _ _ _ e]
      exact h.cell g' q' v hv
theorem Sp.store2 {g q : Nat} {kd : IntKind} {a : Int} (h : Sp F w' w'') (h0 : Sp F w w') (hF : F g) (hc : w.cell? ⟨g, q, none⟩ = some (.int kd a)) (y : Int) : Sp F w' (w''.setCell ⟨g, q, none⟩ (.int kd y)) := by
  obtain ⟨b, hb⟩ := h0.int hc
  exact h.store hF hb y
/-- cells of a block beyond w stay -/
theorem Sp.far {g n : Nat} {cs : Array Value} (h : Sp F w w') (hg : ∀ i, i < n → w.cell? ⟨g, i, none⟩ = cs[i]?) (hn : n ≤ cs.size) (hF : ¬ F g) : ∀ i, i < n → w'.cell? ⟨g, i, none⟩ = cs[i]? := by
  intro i hi
  have h1 := hg i hi
  rw [Array.getElem?_eq_getElem (by omega)] at h1
  rw [Array.getElem?_eq_getElem (by omega), ← h1]
  exact World.cell?_of_block (a := ⟨g, i, none⟩) (h.block g (World.block_lt_of_cell? w ⟨g, i, none⟩ h1) hF)
/-- a box made behind w -/
theorem sbox (hF : ∀ g, F g → g < w.heap.size) (h : Sp F w w') (cs : Array Value) (t : TypeId) : ∃ V, V = w'.alloc (.cells cs t) ∧ Sp F w' V ∧ Sp F V V ∧ (∀ g, F g → g < V.heap.size) ∧
    ∀ u, Sp F V u → ∀ i, i < cs.size → u.cell? ⟨w'.heap.size, i, none⟩ = cs[i]? := by
  have hs := h.size
  refine ⟨_, rfl, Sp.of_below (below1 _ _), Sp.refl _ _, fun g hg => by have := hF g hg; simp; omega, fun u hu => ?_⟩
  refine hu.far (fun i hi => ?_) (Nat.le_refl _) (fun hg => by have := hF _ hg; omega)
  rw [Array.getElem?_eq_getElem hi]
  simp [hi]
theorem Own.max {t : TypeId} {k : Nat} {α : Type} {cells : α → List Value} {x : L α} (h : Own w F t k cells x) : x.l.length ≤ maxLen := by
  rcases h.1.2 with h0 | ⟨g, cap, cur, _, _, _, h1, h2, _⟩
  · omega
  · exact Nat.le_trans h1 h2
theorem Own.sp {t : TypeId} {k : Nat} {α : Type} {cells : α → List Value} {x : L α} (h : Own w F t k cells x) (hk : ∀ u, (cells u).length = k) {i : Nat} (hi : i < x.l.length) :
    ∃ g o, x.A = some ⟨g, o, none⟩ ∧ F g ∧ ∀ j, j < k → w.cell? ⟨g, o + i * k + j, none⟩ = (cells x.l[i])[j]? ∧ w.frozen? ⟨g, o + i * k + j, none⟩ = false := by
  obtain ⟨g, o, e, _, hc⟩ := (h.ok hk).at hi
  refine ⟨g, o, e, h.2 g (by simp only [L.v, e, Value.ownBlock]), fun j hj => ⟨hc j hj, ?_⟩⟩
  rcases h.1.2 with h0 | ⟨g', cap, cur, e2, _, hg, _⟩
  · omega
  · simp only [L.v, e, Value.slice.injEq, Option.some.injEq, Addr.mk.injEq] at e2
    obtain ⟨⟨rfl, _⟩, _⟩ := e2
    simp [World.frozen?, hg]
end
theorem FieldD.sp {F : Nat → Prop} {w : World} {x : L FieldD} (h : Own w F 63 2 FieldD.cells x) {i : Nat} (hi : i < x.l.length) :
    ∃ g o, x.A = some ⟨g, o, none⟩ ∧ ∀ W wr, Sp F w W → Sp F W wr → wr.cell? ⟨g, o + i * 2, none⟩ = some (.string x.l[i].name) ∧ (∃ b, wr.cell? ⟨g, o + i * 2 + 1, none⟩ = some (.int .i64 b)) ∧ wr.frozen? ⟨g, o + i * 2 + 1, none⟩ = false ∧ ∀ y, Sp F W (wr.setCell ⟨g, o + i * 2 + 1, none⟩ (.int .i64 y)) := by
  obtain ⟨g, o, e, hF, hc⟩ := h.sp (fun _ => rfl) hi
  exact ⟨g, o, e, fun W wr hW hR => have hS := hW.trans hR; ⟨hS.str (hc 0 (by omega)).1, hS.int (hc 1 (by omega)).1, hS.thaw (hc 1 (by omega)).1 (hc 1 (by omega)).2, fun y => hR.store2 hW hF (hc 1 (by omega)).1 y⟩⟩
theorem NodeD.sp {F : Nat → Prop} {w : World} {x : L NodeD} (h : Own w F 131 3 NodeD.cells x) {i : Nat} (hi : i < x.l.length) :
    ∃ g o, x.A = some ⟨g, o, none⟩ ∧ ∀ W wr, Sp F w W → Sp F W wr → (∃ b, wr.cell? ⟨g, o + i * 3, none⟩ = some (.int .i64 b)) ∧ (∃ b, wr.cell? ⟨g, o + i * 3 + 1, none⟩ = some (.int .i64 b)) ∧ (∃ b, wr.cell? ⟨g, o + i * 3 + 2, none⟩ = some (.int .i64 b)) ∧ wr.frozen? ⟨g, o + i * 3 + 1, none⟩ = false ∧ ∀ y, Sp F W (wr.setCell ⟨g, o + i * 3 + 1, none⟩ (.int .i64 y)) := by
  obtain ⟨g, o, e, hF, hc⟩ := h.sp (fun _ => rfl) hi
  exact ⟨g, o, e, fun W wr hW hR => have hS := hW.trans hR; ⟨hS.int (hc 0 (by omega)).1, hS.int (hc 1 (by omega)).1, hS.int (hc 2 (by omega)).1, hS.thaw (hc 1 (by omega)).1 (hc 1 (by omega)).2, fun y => hR.store2 hW hF (hc 1 (by omega)).1 y⟩⟩
theorem StmtD.sp {F : Nat → Prop} {w : World} {x : L StmtD} (h : Own w F 129 7 StmtD.cells x) {i : Nat} (hi : i < x.l.length) :
    ∃ g o, x.A = some ⟨g, o, none⟩ ∧ ∀ W wr, Sp F w W → Sp F W wr → (∃ b, wr.cell? ⟨g, o + i * 7, none⟩ = some (.int .i64 b)) ∧ (∃ b, wr.cell? ⟨g, o + i * 7 + 1, none⟩ = some (.int .i64 b)) ∧ (∃ b, wr.cell? ⟨g, o + i * 7 + 2, none⟩ = some (.int .i64 b)) ∧ (∃ b, wr.cell? ⟨g, o + i * 7 + 3, none⟩ = some (.int .i64 b)) ∧ (∃ b, wr.cell? ⟨g, o + i * 7 + 4, none⟩ = some (.int .i64 b)) ∧ wr.cell? ⟨g, o + i * 7 + 5, none⟩ = some (.slice x.l[i].index.A x.l[i].index.l.length x.l[i].index.c) ∧ wr.cell? ⟨g, o + i * 7 + 6, none⟩ = some (.slice x.l[i].value.A x.l[i].value.l.length x.l[i].value.c) ∧ wr.frozen? ⟨g, o + i * 7, none⟩ = false ∧ ∀ y, Sp F W (wr.setCell ⟨g, o + i * 7, none⟩ (.int .i64 y)) := by
  obtain ⟨g, o, e, hF, hc⟩ := h.sp (fun _ => rfl) hi
  exact ⟨g, o, e, fun W wr hW hR => have hS := hW.trans hR; ⟨hS.int (hc 0 (by omega)).1, hS.int (hc 1 (by omega)).1, hS.int (hc 2 (by omega)).1, hS.int (hc 3 (by omega)).1, hS.int (hc 4 (by omega)).1, hS.sl (hc 5 (by omega)).1, hS.sl (hc 6 (by omega)).1, hS.thaw (hc 0 (by omega)).1 (hc 0 (by omega)).2, fun y => hR.store2 hW hF (hc 0 (by omega)).1 y⟩⟩
theorem KeyD.sp {F : Nat → Prop} {w : World} {x : L KeyD} (h : Own w F 133 3 KeyD.cells x) {i : Nat} (hi : i < x.l.length) :
    ∃ g o, x.A = some ⟨g, o, none⟩ ∧ ∀ W wr, Sp F w W → Sp F W wr → (∃ b, wr.cell? ⟨g, o + i * 3, none⟩ = some (.int .i64 b)) ∧ (∃ b, wr.cell? ⟨g, o + i * 3 + 1, none⟩ = some (.int .i64 b)) ∧ (∃ b, wr.cell? ⟨g, o + i * 3 + 2, none⟩ = some (.int .i64 b)) ∧ wr.frozen? ⟨g, o + i * 3 + 2, none⟩ = false ∧ ∀ y, Sp F W (wr.setCell ⟨g, o + i * 3 + 2, none⟩ (.int .i64 y)) := by
  obtain ⟨g, o, e, hF, hc⟩ := h.sp (fun _ => rfl) hi
  exact ⟨g, o, e, fun W wr hW hR => have hS := hW.trans hR; ⟨hS.int (hc 0 (by omega)).1, hS.int (hc 1 (by omega)).1, hS.int (hc 2 (by omega)).1, hS.thaw (hc 2 (by omega)).1 (hc 2 (by omega)).2, fun y => hR.store2 hW hF (hc 2 (by omega)).1 y⟩⟩
theorem TabD.sp {F : Nat → Prop} {w : World} {x : L TabD} (h : Own w F 52 6 TabD.cells x) {i : Nat} (hi : i < x.l.length) :
    ∃ g o, x.A = some ⟨g, o, none⟩ ∧ ∀ W wr, Sp F w W → Sp F W wr → wr.cell? ⟨g, o + i * 6, none⟩ = some (.string x.l[i].name) ∧ wr.cell? ⟨g, o + i * 6 + 1, none⟩ = some (.slice x.l[i].keys.A x.l[i].keys.l.length x.l[i].keys.c) ∧ wr.cell? ⟨g, o + i * 6 + 2, none⟩ = some (.slice x.l[i].acts.A x.l[i].acts.l.length x.l[i].acts.c) ∧ (∃ b, wr.cell? ⟨g, o + i * 6 + 3, none⟩ = some (.int .i64 b)) ∧ wr.cell? ⟨g, o + i * 6 + 4, none⟩ = some (.slice x.l[i].args.A x.l[i].args.l.length x.l[i].args.c) ∧ (∃ b, wr.cell? ⟨g, o + i * 6 + 5, none⟩ = some (.int .i64 b)) ∧ wr.frozen? ⟨g, o + i * 6 + 5, none⟩ = false ∧ ∀ y, Sp F W (wr.setCell ⟨g, o + i * 6 + 5, none⟩ (.int .i64 y)) := by
  obtain ⟨g, o, e, hF, hc⟩ := h.sp (fun _ => rfl) hi
  exact ⟨g, o, e, fun W wr hW hR => have hS := hW.trans hR; ⟨hS.str (hc 0 (by omega)).1, hS.sl (hc 1 (by omega)).1, hS.sl (hc 2 (by omega)).1, hS.int (hc 3 (by omega)).1, hS.sl (hc 4 (by omega)).1, hS.int (hc 5 (by omega)).1, hS.thaw (hc 5 (by omega)).1 (hc 5 (by omega)).2, fun y => hR.store2 hW hF (hc 5 (by omega)).1 y⟩⟩
theorem CaseD.sp {F : Nat → Prop} {w : World} {x : L CaseD} (h : Own w F 166 3 CaseD.cells x) {i : Nat} (hi : i < x.l.length) :
    ∃ g o, x.A = some ⟨g, o, none⟩ ∧ ∀ W wr, Sp F w W → Sp F W wr → (∃ b, wr.cell? ⟨g, o + i * 3, none⟩ = some (.int .u32 b)) ∧ (∃ b, wr.cell? ⟨g, o + i * 3 + 1, none⟩ = some (.int .u32 b)) ∧ (∃ b, wr.cell? ⟨g, o + i * 3 + 2, none⟩ = some (.int .i64 b)) ∧ wr.frozen? ⟨g, o + i * 3 + 2, none⟩ = false ∧ ∀ y, Sp F W (wr.setCell ⟨g, o + i * 3 + 2, none⟩ (.int .i64 y)) := by
  obtain ⟨g, o, e, hF, hc⟩ := h.sp (fun _ => rfl) hi
  exact ⟨g, o, e, fun W wr hW hR => have hS := hW.trans hR; ⟨hS.int (hc 0 (by omega)).1, hS.int (hc 1 (by omega)).1, hS.int (hc 2 (by omega)).1, hS.thaw (hc 2 (by omega)).1 (hc 2 (by omega)).2, fun y => hR.store2 hW hF (hc 2 (by omega)).1 y⟩⟩
theorem StateD.sp {F : Nat → Prop} {w : World} {x : L StateD} (h : Own w F 73 7 StateD.cells x) {i : Nat} (hi : i < x.l.length) :
    ∃ g o, x.A = some ⟨g, o, none⟩ ∧ ∀ W wr, Sp F w W → Sp F W wr → wr.cell? ⟨g, o + i * 7, none⟩ = some (.string x.l[i].name) ∧ wr.cell? ⟨g, o + i * 7 + 1, none⟩ = some (.slice x.l[i].extract.A x.l[i].extract.l.length x.l[i].extract.c) ∧ wr.cell? ⟨g, o + i * 7 + 2, none⟩ = some (.bool x.l[i].sel) ∧ (∃ b, wr.cell? ⟨g, o + i * 7 + 3, none⟩ = some (.int .i64 b)) ∧ (∃ b, wr.cell? ⟨g, o + i * 7 + 4, none⟩ = some (.int .i64 b)) ∧ wr.cell? ⟨g, o + i * 7 + 5, none⟩ = some (.slice x.l[i].cases.A x.l[i].cases.l.length x.l[i].cases.c) ∧ (∃ b, wr.cell? ⟨g, o + i * 7 + 6, none⟩ = some (.int .i64 b)) ∧ wr.frozen? ⟨g, o + i * 7 + 6, none⟩ = false ∧ ∀ y, Sp F W (wr.setCell ⟨g, o + i * 7 + 6, none⟩ (.int .i64 y)) := by
  obtain ⟨g, o, e, hF, hc⟩ := h.sp (fun _ => rfl) hi
  exact ⟨g, o, e, fun W wr hW hR => have hS := hW.trans hR; ⟨hS.str (hc 0 (by omega)).1, hS.sl (hc 1 (by omega)).1, hS.bool (hc 2 (by omega)).1, hS.int (hc 3 (by omega)).1, hS.int (hc 4 (by omega)).1, hS.sl (hc 5 (by omega)).1, hS.int (hc 6 (by omega)).1, hS.thaw (hc 6 (by omega)).1 (hc 6 (by omega)).2, fun y => hR.store2 hW hF (hc 6 (by omega)).1 y⟩⟩
theorem RegD.sp {F : Nat → Prop} {w : World} {x : L RegD} (h : Own w F 65 3 RegD.cells x) {i : Nat} (hi : i < x.l.length) :
    ∃ g o, x.A = some ⟨g, o, none⟩ ∧ ∀ W wr, Sp F w W → Sp F W wr → wr.cell? ⟨g, o + i * 3, none⟩ = some (.string x.l[i].name) ∧ (∃ b, wr.cell? ⟨g, o + i * 3 + 1, none⟩ = some (.int .i64 b)) ∧ (∃ b, wr.cell? ⟨g, o + i * 3 + 2, none⟩ = some (.int .i64 b)) ∧ wr.frozen? ⟨g, o + i * 3 + 2, none⟩ = false ∧ ∀ y, Sp F W (wr.setCell ⟨g, o + i * 3 + 2, none⟩ (.int .i64 y)) := by
  obtain ⟨g, o, e, hF, hc⟩ := h.sp (fun _ => rfl) hi
  exact ⟨g, o, e, fun W wr hW hR => have hS := hW.trans hR; ⟨hS.str (hc 0 (by omega)).1, hS.int (hc 1 (by omega)).1, hS.int (hc 2 (by omega)).1, hS.thaw (hc 2 (by omega)).1 (hc 2 (by omega)).2, fun y => hR.store2 hW hF (hc 2 (by omega)).1 y⟩⟩
theorem CtlD.sp {F : Nat → Prop} {w : World} {x : L CtlD} (h : Own w F 106 5 CtlD.cells x) {i : Nat} (hi : i < x.l.length) :
    ∃ g o, x.A = some ⟨g, o, none⟩ ∧ ∀ W wr, Sp F w W → Sp F W wr → (∃ b, wr.cell? ⟨g, o + i * 5, none⟩ = some (.int .i64 b)) ∧ (∃ b, wr.cell? ⟨g, o + i * 5 + 1, none⟩ = some (.int .i64 b)) ∧ wr.cell? ⟨g, o + i * 5 + 2, none⟩ = some (.slice x.l[i].cond.A x.l[i].cond.l.length x.l[i].cond.c) ∧ wr.cell? ⟨g, o + i * 5 + 3, none⟩ = some (.slice x.l[i].th.A x.l[i].th.l.length x.l[i].th.c) ∧ wr.cell? ⟨g, o + i * 5 + 4, none⟩ = some (.slice x.l[i].el.A x.l[i].el.l.length x.l[i].el.c) ∧ wr.frozen? ⟨g, o + i * 5 + 1, none⟩ = false ∧ ∀ y, Sp F W (wr.setCell ⟨g, o + i * 5 + 1, none⟩ (.int .i64 y)) := by
  obtain ⟨g, o, e, hF, hc⟩ := h.sp (fun _ => rfl) hi
  exact ⟨g, o, e, fun W wr hW hR => have hS := hW.trans hR; ⟨hS.int (hc 0 (by omega)).1, hS.int (hc 1 (by omega)).1, hS.sl (hc 2 (by omega)).1, hS.sl (hc 3 (by omega)).1, hS.sl (hc 4 (by omega)).1, hS.thaw (hc 1 (by omega)).1 (hc 1 (by omega)).2, fun y => hR.store2 hW hF (hc 1 (by omega)).1 y⟩⟩
theorem HeaderD.sp {F : Nat → Prop} {w : World} {x : L HeaderD} (h : Own w F 61 2 HeaderD.cells x) {i : Nat} (hi : i < x.l.length) :
    ∃ g o, x.A = some ⟨g, o, none⟩ ∧ ∀ W wr, Sp F w W → Sp F W wr → wr.cell? ⟨g, o + i * 2, none⟩ = some (.string x.l[i].name) ∧ wr.cell? ⟨g, o + i * 2 + 1, none⟩ = some (.slice x.l[i].fields.A x.l[i].fields.l.length x.l[i].fields.c) := by
  obtain ⟨g, o, e, hF, hc⟩ := h.sp (fun _ => rfl) hi
  exact ⟨g, o, e, fun W wr hW hR => have hS := hW.trans hR; ⟨hS.str (hc 0 (by omega)).1, hS.sl (hc 1 (by omega)).1⟩⟩
theorem ActD.sp {F : Nat → Prop} {w : World} {x : L ActD} (h : Own w F 68 3 ActD.cells x) {i : Nat} (hi : i < x.l.length) :
    ∃ g o, x.A = some ⟨g, o, none⟩ ∧ ∀ W wr, Sp F w W → Sp F W wr → wr.cell? ⟨g, o + i * 3, none⟩ = some (.string x.l[i].name) ∧ wr.cell? ⟨g, o + i * 3 + 1, none⟩ = some (.slice x.l[i].params.A x.l[i].params.l.length x.l[i].params.c) ∧ wr.cell? ⟨g, o + i * 3 + 2, none⟩ = some (.slice x.l[i].body.A x.l[i].body.l.length x.l[i].body.c) := by
  obtain ⟨g, o, e, hF, hc⟩ := h.sp (fun _ => rfl) hi
  exact ⟨g, o, e, fun W wr hW hR => have hS := hW.trans hR; ⟨hS.str (hc 0 (by omega)).1, hS.sl (hc 1 (by omega)).1, hS.sl (hc 2 (by omega)).1⟩⟩
theorem icell_sp {F : Nat → Prop} {w : World} {x : L Int} (h : Own w F 3 1 icell x) {i : Nat} (hi : i < x.l.length) :
    ∃ g o, x.A = some ⟨g, o, none⟩ ∧ ∀ W wr, Sp F w W → Sp F W wr → (∃ b, wr.cell? ⟨g, o + i, none⟩ = some (.int .i64 b)) ∧ wr.frozen? ⟨g, o + i, none⟩ = false ∧ ∀ y, Sp F W (wr.setCell ⟨g, o + i, none⟩ (.int .i64 y)) := by
  obtain ⟨g, o, e, hF, hc⟩ := h.sp (fun _ => rfl) hi
  have h0 := hc 0 (by omega)
  rw [Nat.mul_one] at h0
  exact ⟨g, o, e, fun W wr hW hR => have hS := hW.trans hR; ⟨hS.int h0.1, hS.thaw h0.1 h0.2, fun y => hR.store2 hW hF h0.1 y⟩⟩
theorem ucell_sp {F : Nat → Prop} {w : World} {x : L Int} (h : Own w F 134 1 ucell x) {i : Nat} (hi : i < x.l.length) :
    ∃ g o, x.A = some ⟨g, o, none⟩ ∧ ∀ W wr, Sp F w W → Sp F W wr → (∃ b, wr.cell? ⟨g, o + i, none⟩ = some (.int .u32 b)) ∧ wr.frozen? ⟨g, o + i, none⟩ = false ∧ ∀ y, Sp F W (wr.setCell ⟨g, o + i, none⟩ (.int .u32 y)) := by
  obtain ⟨g, o, e, hF, hc⟩ := h.sp (fun _ => rfl) hi
  have h0 := hc 0 (by omega)
  rw [Nat.mul_one] at h0
  exact ⟨g, o, e, fun W wr hW hR => have hS := hW.trans hR; ⟨hS.int h0.1, hS.thaw h0.1 h0.2, fun y => hR.store2 hW hF h0.1 y⟩⟩
end Go.Proofs.YtgfbikknkcaneaaGreat
namespace Go.Proofs.YtgfbikknkcaneaaGreat
open Go.RowKit

set_option maxRecDepth 100000 in
set_option maxHeartbeats 16000000 in
theorem spoilCtl_any {F : Nat → Prop} {w0 : World} : ∀ (N : Nat) (x : L CtlD) (w : World), nestM x.l < N → Own w0 F 106 5 CtlD.cells x → (∀ y ∈ x.l, CtlOwn w0 F y) → Sp F w0 w →
    Calls Tryz.prog 148 #[x.v] w fun e w' => e = .returned (.tuple #[]) ∧ Sp F w w'
  | 0, _, _, h, _, _, _ => absurd h (Nat.not_lt_zero _)
  | N + 1, x, w, hN, hx, hxe, hw => by
    have IH := Lib.hid (spoilCtl_any (F := F) (w0 := w0) N)
    have HNN := Lib.hid hN
    obtain ⟨l, A0, c0⟩ := x
    have HX := Lib.hid hx
    have HXE := Lib.hid hxe
    have H0 := Lib.hid hw
    have hmx := hx.max
    simp only [maxLen] at hmx
    clear hN hx hxe hw
    simp only [L.v] at *
    go_enter Tryz.func148, Tryz.ntmps148
    go_wp2
    go_loopw [2] (fun iv wr => ∃ k : Nat, k ≤ l.length ∧ iv = .int .i64 k ∧ Sp F w wr) (fun i _ => l.length - (intOf i).toNat)
    case atStart => exact ⟨0, Nat.zero_le _, rfl, Sp.refl _ _⟩
    case round =>
    obtain ⟨k, hk, rfl, HB⟩ := hrel
    by_cases hlt : k < l.length
    · obtain ⟨g, of, hA, hsp⟩ := CtlD.sp HX.out hlt
      have HC := ctlOwn_iff.1 (HXE.out _ (List.getElem_mem hlt))
      have HD := nest_mem (List.getElem_mem hlt)
      simp only at hA hsp
      subst hA
      generalize l[k].th = th at *
      generalize l[k].el = el at *
      generalize l[k].cond = cd at *
      obtain ⟨cl, cA, cc⟩ := cd
      simp only at hsp
      replace HC := Lib.hid HC
      replace HD := Lib.hid HD
      have HSP := Lib.hid hsp
      have hcx := HC.out.1.max
      simp only [maxLen] at hcx
      clear hsp
      go_wp2
      go_loopw [3] (fun iv wr => ∃ k : Nat, k ≤ cl.length ∧ iv = .int .i64 k ∧ Sp F w wr) (fun i _ => cl.length - (intOf i).toNat)
      case atStart => exact ⟨0, Nat.zero_le _, rfl, HB⟩
      case round =>
      clear HB
      obtain ⟨j, hj, rfl, HB⟩ := hrel
      obtain ⟨⟨b0, d0⟩, ⟨b1, d1⟩, d2, d3, d4, hz, hset⟩ := HSP.out _ _ H0.out HB
      clear hset hz
      by_cases hjt : j < cl.length
      · obtain ⟨g2, of2, hA2, hsp2⟩ := NodeD.sp HC.out.1 hjt
        simp only at hA2
        subst hA2
        obtain ⟨⟨c0, e0⟩, ⟨c1, e1⟩, ⟨c2, e2⟩, hz2, hset2⟩ := hsp2 _ _ H0.out HB
        have HS2 := Lib.hid hset2
        clear hset2 hsp2
        go_wp2
        go_roundw
        case rel => exact ⟨j + 1, by omega, by go_num, HS2.out _⟩
        case measure => simp [intOf]; omega
      · go_wp2_with fail
        refine (IH.out th _ (by have := HD.out.1; have := HNN.out; omega) HC.out.2.1 HC.out.2.2.2.1 (H0.out.trans HB)).mono ?_
        rintro e w2 ⟨rfl, hb⟩
        replace HB := HB.trans hb
        clear hb d0 d1 d2 d3 d4
        obtain ⟨⟨b0, d0⟩, ⟨b1, d1⟩, d2, d3, d4, hz, hset⟩ := HSP.out _ _ H0.out HB
        clear hset hz
        go_wp2_with fail
        refine (IH.out el _ (by have := HD.out.2; have := HNN.out; omega) HC.out.2.2.1 HC.out.2.2.2.2 (H0.out.trans HB)).mono ?_
        rintro e w3 ⟨rfl, hb⟩
        replace HB := HB.trans hb
        clear hb d0 d1 d2 d3 d4
        obtain ⟨⟨b0, d0⟩, ⟨b1, d1⟩, d2, d3, d4, hz, hset⟩ := HSP.out _ _ H0.out HB
        have HS := Lib.hid hset
        clear hset
        go_wp2
        go_roundw
        case rel => exact ⟨k + 1, by omega, by go_num, HS.out _⟩
        case measure => simp [intOf]; omega
    · go_wp2
      refine bodyPost_end (results_none rfl _ _ _) rfl ?_
      exact ⟨rfl, HB⟩
end Go.Proofs.YtgfbikknkcaneaaGreat
namespace Go.Proofs.YtgfbikknkcaneaaGreat
open Go.RowKit

set_option maxRecDepth 100000 in
set_option maxHeartbeats 16000000 in
theorem spoilRest_any {F : Nat → Prop} {w0 : World} (p : ProgD) (w : World) (o : ProgOwn w0 F p) (hF : ∀ g, F g → g < w0.heap.size) (hw : Sp F w0 w) :
    Calls Tryz.prog 93 #[.agg (progCells p)] w fun e w' => e = .returned (.tuple #[]) ∧ Sp F w w' := by
  obtain ⟨nm, ⟨hl0, hA0, hc0⟩, ⟨ml0, mA0, mc0⟩, ⟨rl0, rA0, rc0⟩, ⟨al0, aA0, ac0⟩, ⟨tl0, tA0, tc0⟩, ⟨sl0, sA0, sc0⟩, ⟨cl0, cA0, cc0⟩, ⟨dl0, dA0, dc0⟩⟩ := p
  simp only [progCells] at *
  obtain ⟨W, hW, hw1, HB, hFW, hp⟩ := sbox (fun g hg => Nat.lt_of_lt_of_le (hF g hg) hw.size) (Sp.refl F w) #[.string nm, .slice hA0 hl0.length hc0, .slice mA0 ml0.length mc0, .slice rA0 rl0.length rc0, .slice aA0 al0.length ac0, .slice tA0 tl0.length tc0, .slice sA0 sl0.length sc0, .slice cA0 cl0.length cc0, .slice dA0 dl0.length dc0] 31
  have HO := Lib.hid o
  have H0 := Lib.hid (hw.trans hw1)
  have HW := Lib.hid hw1
  have HFW := Lib.hid hFW
  have HFF := Lib.hid hF
  clear o hw hw1 hFW hF
  go_enter Tryz.func93, Tryz.ntmps93
  go_upto_region 1 with fail
  rw [← hW]
  clear hW
  have hm0 := HO.out.states.max
  simp only [maxLen] at hm0
  go_wp2
  have HX0 := Lib.hid HB
  clear HB
  go_loopw [2] (fun iv wr => ∃ k : Nat, k ≤ sl0.length ∧ iv = .int .i64 k ∧ Sp F W wr) (fun i _ => sl0.length - (intOf i).toNat)
  case atStart => exact ⟨0, Nat.zero_le _, rfl, HX0.out⟩
  case round =>
  clear HX0
  obtain ⟨j0, hj0, rfl, HB⟩ := hrel
  have hp0 := hp _ HB
  by_cases hlt : j0 < sl0.length
  · obtain ⟨g, of, hA, hsp⟩ := StateD.sp HO.out.states hlt
    simp only at hA hsp
    subst hA
    have HX := Lib.hid (HO.out.state _ (List.getElem_mem hlt))
    generalize sl0[j0] = y at *
    obtain ⟨yn, ⟨xl, xA, xc⟩, ys, yo, yf, ⟨bl, bA, bc⟩, yd⟩ := y
    simp only at hsp
    have HSP := Lib.hid hsp
    obtain ⟨d0, d1, d2, ⟨b3, d3⟩, ⟨b4, d4⟩, d5, ⟨b6, d6⟩, hz, hset⟩ := hsp _ _ H0.out HB
    obtain ⟨V, hV, hv1, HV, hFV, hq⟩ := sbox HFW.out HB #[.string yn, .slice xA xl.length xc, .bool ys, .int .i64 b3, .int .i64 b4, .slice bA bl.length bc, .int .i64 b6] 73
    clear hset hz hsp hFV
    go_upto_region 5 with fail
    rw [← hV]
    have HBV := Lib.hid (HB.trans hv1)
    have H0V := Lib.hid (H0.out.trans HBV.out)
    clear hV HB hp0 d0 d1 d2 d3 d4 d5 d6 hv1
    have hm1 := HX.out.extract.max
    simp only [maxLen] at hm1
    go_wp2
    have HX1 := Lib.hid HV
    clear HV
    go_loopw [4] (fun iv wr => ∃ k : Nat, k ≤ xl.length ∧ iv = .int .i64 k ∧ Sp F V wr) (fun i _ => xl.length - (intOf i).toNat)
    case atStart => exact ⟨0, Nat.zero_le _, rfl, HX1.out⟩
    case round =>
    clear HX1
    obtain ⟨j1, hj1, rfl, HV⟩ := hrel
    have hq0 := hq _ HV
    by_cases hjt1 : j1 < xl.length
    · obtain ⟨g1, of1, hA1, hsp1⟩ := icell_sp HX.out.extract hjt1
      simp only at hA1
      subst hA1
      obtain ⟨⟨e1b0, e1d0⟩, e1hz, e1hset⟩ := hsp1 _ _ H0V.out HV
      have HS1 := Lib.hid e1hset
      clear e1hset hsp1
      go_wp2
      go_roundw
      case rel => exact ⟨j1 + 1, by omega, by go_num, HS1.out _⟩
      case measure => simp [intOf]; omega
    have hm2 := HX.out.cases.max
    simp only [maxLen] at hm2
    go_wp2
    have HX2 := Lib.hid HV
    clear HV
    go_loopw [5] (fun iv wr => ∃ k : Nat, k ≤ bl.length ∧ iv = .int .i64 k ∧ Sp F V wr) (fun i _ => bl.length - (intOf i).toNat)
    case atStart => exact ⟨0, Nat.zero_le _, rfl, HX2.out⟩
    case round =>
    clear HX2
    obtain ⟨j2, hj2, rfl, HV⟩ := hrel
    clear hq0
    have hq0 := hq _ HV
    by_cases hjt2 : j2 < bl.length
    · obtain ⟨g2, of2, hA2, hsp2⟩ := CaseD.sp HX.out.cases hjt2
      simp only at hA2
      subst hA2
      obtain ⟨⟨e2b0, e2d0⟩, ⟨e2b1, e2d1⟩, ⟨e2b2, e2d2⟩, e2hz, e2hset⟩ := hsp2 _ _ H0V.out HV
      have HS2 := Lib.hid e2hset
      clear e2hset hsp2
      go_wp2
      go_roundw
      case rel => exact ⟨j2 + 1, by omega, by go_num, HS2.out _⟩
      case measure => simp [intOf]; omega
    have HB := HBV.out.trans HV
    have hp0 := hp _ HB
    obtain ⟨d0, d1, d2, ⟨b3, d3⟩, ⟨b4, d4⟩, d5, ⟨b6, d6⟩, hz, hset⟩ := HSP.out _ _ H0.out HB
    have HS := Lib.hid hset
    clear hset HB
    go_wp2
    go_roundw
    case rel => exact ⟨j0 + 1, by omega, by go_num, HS.out _⟩
    case measure => simp [intOf]; omega
  have hm3 := HO.out.registers.max
  simp only [maxLen] at hm3
  go_wp2
  have HX3 := Lib.hid HB
  clear HB
  go_loopw [6] (fun iv wr => ∃ k : Nat, k ≤ rl0.length ∧ iv = .int .i64 k ∧ Sp F W wr) (fun i _ => rl0.length - (intOf i).toNat)
  case atStart => exact ⟨0, Nat.zero_le _, rfl, HX3.out⟩
  case round =>
  clear HX3
  obtain ⟨j3, hj3, rfl, HB⟩ := hrel
  clear hp0
  have hp0 := hp _ HB
  by_cases hjt3 : j3 < rl0.length
  · obtain ⟨g3, of3, hA3, hsp3⟩ := RegD.sp HO.out.registers hjt3
    simp only at hA3
    subst hA3
    obtain ⟨e3d0, ⟨e3b1, e3d1⟩, ⟨e3b2, e3d2⟩, e3hz, e3hset⟩ := hsp3 _ _ H0.out HB
    have HS3 := Lib.hid e3hset
    clear e3hset hsp3
    go_wp2
    go_roundw
    case rel => exact ⟨j3 + 1, by omega, by go_num, HS3.out _⟩
    case measure => simp [intOf]; omega
  have hm4 := HO.out.deparser.max
  simp only [maxLen] at hm4
  go_wp2
  have HX4 := Lib.hid HB
  clear HB
  go_loopw [7] (fun iv wr => ∃ k : Nat, k ≤ dl0.length ∧ iv = .int .i64 k ∧ Sp F W wr) (fun i _ => dl0.length - (intOf i).toNat)
  case atStart => exact ⟨0, Nat.zero_le _, rfl, HX4.out⟩
  case round =>
  clear HX4
  obtain ⟨j4, hj4, rfl, HB⟩ := hrel
  clear hp0
  have hp0 := hp _ HB
  by_cases hjt4 : j4 < dl0.length
  · obtain ⟨g4, of4, hA4, hsp4⟩ := icell_sp HO.out.deparser hjt4
    simp only at hA4
    subst hA4
    obtain ⟨⟨e4b0, e4d0⟩, e4hz, e4hset⟩ := hsp4 _ _ H0.out HB
    have HS4 := Lib.hid e4hset
    clear e4hset hsp4
    go_wp2
    go_roundw
    case rel => exact ⟨j4 + 1, by omega, by go_num, HS4.out _⟩
    case measure => simp [intOf]; omega
  go_wp2_with fail
  refine (spoilCtl_any (nestM cl0 + 1) ⟨cl0, cA0, cc0⟩ _ (Nat.lt_succ_self _) HO.out.control HO.out.ctl (H0.out.trans HB)).mono ?_
  rintro e w2 ⟨rfl, hb⟩
  replace HB := HB.trans hb
  clear hb hp0
  go_wp2
  refine bodyPost_end (results_none rfl _ _ _) rfl ?_
  exact ⟨rfl, HW.out.trans HB⟩
end Go.Proofs.YtgfbikknkcaneaaGreat
