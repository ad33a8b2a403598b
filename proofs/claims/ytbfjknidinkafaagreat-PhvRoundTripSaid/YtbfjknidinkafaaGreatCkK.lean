/- Small means for the walks of the checks: boxes and elements whose cells every later world still holds, calls of when and require. No condition. -/
import Derived.Test.YtbfjknidinkafaaGreatCkM
import Derived.Test.YtbfjknidinkafaaGreatPgC
import Derived.Deep.Cut
import Derived.BigQuiet
namespace Go.Proofs.YtbfjknidinkafaaGreat
open Go.RowKit

theorem box1 (w : World) (cs : Array Value) (t : TypeId) : ∃ W, W = w.alloc (.cells cs t) ∧ Below w.heap.size w W ∧ Below W.heap.size W W ∧
    ∀ w', Below W.heap.size W w' → ∀ i, i < cs.size → w'.cell? ⟨w.heap.size, i, none⟩ = cs[i]? := by
  refine ⟨_, rfl, below1 _ _, Below.refl _ _, fun w' hb i hi => ?_⟩
  rw [Array.getElem?_eq_getElem hi]
  exact below_cell hb (by simp [hi])
theorem box2 (w : World) (cs : Array Value) (t : TypeId) (cs2 : Array Value) (t2 : TypeId) : ∃ W, W = (w.alloc (.cells cs t)).alloc (.cells cs2 t2) ∧ Below w.heap.size w W ∧ Below W.heap.size W W ∧
    ∀ w', Below W.heap.size W w' → (∀ i, i < cs.size → w'.cell? ⟨w.heap.size, i, none⟩ = cs[i]?) ∧ ∀ i, i < cs2.size → w'.cell? ⟨w.heap.size + 1, i, none⟩ = cs2[i]? := by
  refine ⟨_, rfl, below2 _ _ _, Below.refl _ _, fun w' hb => ⟨fun i hi => ?_, fun i hi => ?_⟩⟩
  all_goals
    rw [Array.getElem?_eq_getElem hi]
    exact below_cell hb (by simp [hi])

theorem CaseD.at {w : World} {x : L CaseD} (h : LOk w 3 CaseD.cells x) {i : Nat} (hi : i < x.l.length) :
    ∃ g o, x.A = some ⟨g, o, none⟩ ∧ w.cell? ⟨g, o + i * 3, none⟩ = some (.int .u32 x.l[i].value) ∧ w.cell? ⟨g, o + i * 3 + 1, none⟩ = some (.int .u32 x.l[i].mask) ∧ w.cell? ⟨g, o + i * 3 + 2, none⟩ = some (.int .i64 x.l[i].next) := by
  obtain ⟨g, o, e, _, hc⟩ := h.at hi
  exact ⟨g, o, e, hc 0 (by omega), hc 1 (by omega), hc 2 (by omega)⟩
theorem toList_inj {a b : ByteArray} : a.toList = b.toList ↔ a = b := by
  constructor
  · intro h
    rw [toList_data, toList_data] at h
    cases a; cases b
    simp only [Array.toList_inj] at h
    rw [h]
  · rintro rfl; rfl
theorem toList_true {a b : ByteArray} (h : a = b) : (a.toList == b.toList) = true := beq_iff_eq.2 (toList_inj.2 h)
theorem toList_false {a b : ByteArray} (h : ¬ a = b) : (a.toList == b.toList) = false := beq_eq_false_iff_ne.2 fun e => h (toList_inj.1 e)
theorem when_true (b : Bool) (c : Int) (w : World) (h : b = true) :
    Calls Tryz.prog 117 #[.bool b, .int .i64 c] w fun e w' => e = .returned (.int .i64 c) ∧ w = w' := by
  subst h; exact when_any true c w
theorem require_some (d : DiagD) (w : World) (h : d.code ≠ 0) :
    Calls Tryz.prog 116 #[.int .i64 d.code, .int .i64 d.part, .int .i64 d.item, .int .i64 d.sub] w fun e w' => e = outE (some d) ∧ w = w' :=
  require_bad d.code d.part d.item d.sub w (beq_eq_false_iff_ne.2 h)

theorem NodeD.atA {w : World} {x : L NodeD} (h : LOk w 3 NodeD.cells x) {i : Nat} (hi : i < x.l.length) :
    ∃ g o, x.A = some ⟨g, o, none⟩ ∧ ∀ w', Below w.heap.size w w' → w'.cell? ⟨g, o + i * 3, none⟩ = some (.int .i64 x.l[i].op) ∧ w'.cell? ⟨g, o + i * 3 + 1, none⟩ = some (.int .i64 x.l[i].n) ∧ w'.cell? ⟨g, o + i * 3 + 2, none⟩ = some (.int .i64 x.l[i].w) := by
  obtain ⟨g, o, e, d0, d1, d2⟩ := NodeD.at h hi
  exact ⟨g, o, e, fun w' hb => ⟨below_cell hb d0, below_cell hb d1, below_cell hb d2⟩⟩
theorem FieldD.atA {w : World} {x : L FieldD} (h : LOk w 2 FieldD.cells x) {i : Nat} (hi : i < x.l.length) :
    ∃ g o, x.A = some ⟨g, o, none⟩ ∧ ∀ w', Below w.heap.size w w' → w'.cell? ⟨g, o + i * 2, none⟩ = some (.string x.l[i].name) ∧ w'.cell? ⟨g, o + i * 2 + 1, none⟩ = some (.int .i64 x.l[i].width) := by
  obtain ⟨g, o, e, d0, d1⟩ := FieldD.at h hi
  exact ⟨g, o, e, fun w' hb => ⟨below_cell hb d0, below_cell hb d1⟩⟩
theorem HeaderD.atA {w : World} {x : L HeaderD} (h : LOk w 2 HeaderD.cells x) {i : Nat} (hi : i < x.l.length) :
    ∃ g o, x.A = some ⟨g, o, none⟩ ∧ ∀ w', Below w.heap.size w w' → w'.cell? ⟨g, o + i * 2, none⟩ = some (.string x.l[i].name) ∧ w'.cell? ⟨g, o + i * 2 + 1, none⟩ = some (.slice x.l[i].fields.A x.l[i].fields.l.length x.l[i].fields.c) := by
  obtain ⟨g, o, e, d0, d1⟩ := HeaderD.at h hi
  exact ⟨g, o, e, fun w' hb => ⟨below_cell hb d0, below_cell hb d1⟩⟩
theorem RegD.atA {w : World} {x : L RegD} (h : LOk w 3 RegD.cells x) {i : Nat} (hi : i < x.l.length) :
    ∃ g o, x.A = some ⟨g, o, none⟩ ∧ ∀ w', Below w.heap.size w w' → w'.cell? ⟨g, o + i * 3, none⟩ = some (.string x.l[i].name) ∧ w'.cell? ⟨g, o + i * 3 + 1, none⟩ = some (.int .i64 x.l[i].width) ∧ w'.cell? ⟨g, o + i * 3 + 2, none⟩ = some (.int .i64 x.l[i].size) := by
  obtain ⟨g, o, e, d0, d1, d2⟩ := RegD.at h hi
  exact ⟨g, o, e, fun w' hb => ⟨below_cell hb d0, below_cell hb d1, below_cell hb d2⟩⟩
theorem ActD.atA {w : World} {x : L ActD} (h : LOk w 3 ActD.cells x) {i : Nat} (hi : i < x.l.length) :
    ∃ g o, x.A = some ⟨g, o, none⟩ ∧ ∀ w', Below w.heap.size w w' → w'.cell? ⟨g, o + i * 3, none⟩ = some (.string x.l[i].name) ∧ w'.cell? ⟨g, o + i * 3 + 1, none⟩ = some (.slice x.l[i].params.A x.l[i].params.l.length x.l[i].params.c) ∧ w'.cell? ⟨g, o + i * 3 + 2, none⟩ = some (.slice x.l[i].body.A x.l[i].body.l.length x.l[i].body.c) := by
  obtain ⟨g, o, e, d0, d1, d2⟩ := ActD.at h hi
  exact ⟨g, o, e, fun w' hb => ⟨below_cell hb d0, below_cell hb d1, below_cell hb d2⟩⟩
theorem KeyD.atA {w : World} {x : L KeyD} (h : LOk w 3 KeyD.cells x) {i : Nat} (hi : i < x.l.length) :
    ∃ g o, x.A = some ⟨g, o, none⟩ ∧ ∀ w', Below w.heap.size w w' → w'.cell? ⟨g, o + i * 3, none⟩ = some (.int .i64 x.l[i].h) ∧ w'.cell? ⟨g, o + i * 3 + 1, none⟩ = some (.int .i64 x.l[i].f) ∧ w'.cell? ⟨g, o + i * 3 + 2, none⟩ = some (.int .i64 x.l[i].kind) := by
  obtain ⟨g, o, e, d0, d1, d2⟩ := KeyD.at h hi
  exact ⟨g, o, e, fun w' hb => ⟨below_cell hb d0, below_cell hb d1, below_cell hb d2⟩⟩
theorem TabD.atA {w : World} {x : L TabD} (h : LOk w 6 TabD.cells x) {i : Nat} (hi : i < x.l.length) :
    ∃ g o, x.A = some ⟨g, o, none⟩ ∧ ∀ w', Below w.heap.size w w' → w'.cell? ⟨g, o + i * 6, none⟩ = some (.string x.l[i].name) ∧ w'.cell? ⟨g, o + i * 6 + 1, none⟩ = some (.slice x.l[i].keys.A x.l[i].keys.l.length x.l[i].keys.c) ∧ w'.cell? ⟨g, o + i * 6 + 2, none⟩ = some (.slice x.l[i].acts.A x.l[i].acts.l.length x.l[i].acts.c) ∧ w'.cell? ⟨g, o + i * 6 + 3, none⟩ = some (.int .i64 x.l[i].defA) ∧ w'.cell? ⟨g, o + i * 6 + 4, none⟩ = some (.slice x.l[i].args.A x.l[i].args.l.length x.l[i].args.c) ∧ w'.cell? ⟨g, o + i * 6 + 5, none⟩ = some (.int .i64 x.l[i].size) := by
  obtain ⟨g, o, e, d0, d1, d2, d3, d4, d5⟩ := TabD.at h hi
  exact ⟨g, o, e, fun w' hb => ⟨below_cell hb d0, below_cell hb d1, below_cell hb d2, below_cell hb d3, below_cell hb d4, below_cell hb d5⟩⟩
theorem StateD.atA {w : World} {x : L StateD} (h : LOk w 7 StateD.cells x) {i : Nat} (hi : i < x.l.length) :
    ∃ g o, x.A = some ⟨g, o, none⟩ ∧ ∀ w', Below w.heap.size w w' → w'.cell? ⟨g, o + i * 7, none⟩ = some (.string x.l[i].name) ∧ w'.cell? ⟨g, o + i * 7 + 1, none⟩ = some (.slice x.l[i].extract.A x.l[i].extract.l.length x.l[i].extract.c) ∧ w'.cell? ⟨g, o + i * 7 + 2, none⟩ = some (.bool x.l[i].sel) ∧ w'.cell? ⟨g, o + i * 7 + 3, none⟩ = some (.int .i64 x.l[i].oh) ∧ w'.cell? ⟨g, o + i * 7 + 4, none⟩ = some (.int .i64 x.l[i].of) ∧ w'.cell? ⟨g, o + i * 7 + 5, none⟩ = some (.slice x.l[i].cases.A x.l[i].cases.l.length x.l[i].cases.c) ∧ w'.cell? ⟨g, o + i * 7 + 6, none⟩ = some (.int .i64 x.l[i].dflt) := by
  obtain ⟨g, o, e, d0, d1, d2, d3, d4, d5, d6⟩ := StateD.at h hi
  exact ⟨g, o, e, fun w' hb => ⟨below_cell hb d0, below_cell hb d1, below_cell hb d2, below_cell hb d3, below_cell hb d4, below_cell hb d5, below_cell hb d6⟩⟩
theorem StmtD.atA {w : World} {x : L StmtD} (h : LOk w 7 StmtD.cells x) {i : Nat} (hi : i < x.l.length) :
    ∃ g o, x.A = some ⟨g, o, none⟩ ∧ ∀ w', Below w.heap.size w w' → w'.cell? ⟨g, o + i * 7, none⟩ = some (.int .i64 x.l[i].kind) ∧ w'.cell? ⟨g, o + i * 7 + 1, none⟩ = some (.int .i64 x.l[i].dh) ∧ w'.cell? ⟨g, o + i * 7 + 2, none⟩ = some (.int .i64 x.l[i].df) ∧ w'.cell? ⟨g, o + i * 7 + 3, none⟩ = some (.int .i64 x.l[i].reg) ∧ w'.cell? ⟨g, o + i * 7 + 4, none⟩ = some (.int .i64 x.l[i].hdr) ∧ w'.cell? ⟨g, o + i * 7 + 5, none⟩ = some (.slice x.l[i].index.A x.l[i].index.l.length x.l[i].index.c) ∧ w'.cell? ⟨g, o + i * 7 + 6, none⟩ = some (.slice x.l[i].value.A x.l[i].value.l.length x.l[i].value.c) := by
  obtain ⟨g, o, e, d0, d1, d2, d3, d4, d5, d6⟩ := StmtD.at h hi
  exact ⟨g, o, e, fun w' hb => ⟨below_cell hb d0, below_cell hb d1, below_cell hb d2, below_cell hb d3, below_cell hb d4, below_cell hb d5, below_cell hb d6⟩⟩
theorem CtlD.atA {w : World} {x : L CtlD} (h : LOk w 5 CtlD.cells x) {i : Nat} (hi : i < x.l.length) :
    ∃ g o, x.A = some ⟨g, o, none⟩ ∧ ∀ w', Below w.heap.size w w' → w'.cell? ⟨g, o + i * 5, none⟩ = some (.int .i64 x.l[i].kind) ∧ w'.cell? ⟨g, o + i * 5 + 1, none⟩ = some (.int .i64 x.l[i].table) ∧ w'.cell? ⟨g, o + i * 5 + 2, none⟩ = some (.slice x.l[i].cond.A x.l[i].cond.l.length x.l[i].cond.c) ∧ w'.cell? ⟨g, o + i * 5 + 3, none⟩ = some (.slice x.l[i].th.A x.l[i].th.l.length x.l[i].th.c) ∧ w'.cell? ⟨g, o + i * 5 + 4, none⟩ = some (.slice x.l[i].el.A x.l[i].el.l.length x.l[i].el.c) := by
  obtain ⟨g, o, e, d0, d1, d2, d3, d4⟩ := CtlD.at h hi
  exact ⟨g, o, e, fun w' hb => ⟨below_cell hb d0, below_cell hb d1, below_cell hb d2, below_cell hb d3, below_cell hb d4⟩⟩
theorem icell_atA {w : World} {x : L Int} (h : LOk w 1 icell x) {i : Nat} (hi : i < x.l.length) : ∃ g o, x.A = some ⟨g, o, none⟩ ∧ ∀ w', Below w.heap.size w w' → w'.cell? ⟨g, o + i, none⟩ = some (.int .i64 x.l[i]) := by
  obtain ⟨g, o, e, d0⟩ := icell_at h hi
  exact ⟨g, o, e, fun w' hb => below_cell hb d0⟩
theorem ucell_atA {w : World} {x : L Int} (h : LOk w 1 ucell x) {i : Nat} (hi : i < x.l.length) : ∃ g o, x.A = some ⟨g, o, none⟩ ∧ ∀ w', Below w.heap.size w w' → w'.cell? ⟨g, o + i, none⟩ = some (.int .u32 x.l[i]) := by
  obtain ⟨g, o, e, d0⟩ := ucell_at h hi
  exact ⟨g, o, e, fun w' hb => below_cell hb d0⟩

theorem NodeD.allA {w : World} {x : L NodeD} (h : LOk w 3 NodeD.cells x) (h0 : 0 < x.l.length) :
    ∃ g o, x.A = some ⟨g, o, none⟩ ∧ ∀ w', Below w.heap.size w w' → ∀ i (hi : i < x.l.length), w'.cell? ⟨g, o + i * 3, none⟩ = some (.int .i64 x.l[i].op) ∧ w'.cell? ⟨g, o + i * 3 + 1, none⟩ = some (.int .i64 x.l[i].n) ∧ w'.cell? ⟨g, o + i * 3 + 2, none⟩ = some (.int .i64 x.l[i].w) := by
  rcases h.2 with e | ⟨g, o, e, _, hc⟩
  · rw [e] at h0; cases h0
  · exact ⟨g, o, e, fun w' hb i hi => ⟨below_cell hb (hc i hi 0 (by omega)), below_cell hb (hc i hi 1 (by omega)), below_cell hb (hc i hi 2 (by omega))⟩⟩
theorem FieldD.allA {w : World} {x : L FieldD} (h : LOk w 2 FieldD.cells x) (h0 : 0 < x.l.length) :
    ∃ g o, x.A = some ⟨g, o, none⟩ ∧ ∀ w', Below w.heap.size w w' → ∀ i (hi : i < x.l.length), w'.cell? ⟨g, o + i * 2, none⟩ = some (.string x.l[i].name) ∧ w'.cell? ⟨g, o + i * 2 + 1, none⟩ = some (.int .i64 x.l[i].width) := by
  rcases h.2 with e | ⟨g, o, e, _, hc⟩
  · rw [e] at h0; cases h0
  · exact ⟨g, o, e, fun w' hb i hi => ⟨below_cell hb (hc i hi 0 (by omega)), below_cell hb (hc i hi 1 (by omega))⟩⟩
theorem HeaderD.allA {w : World} {x : L HeaderD} (h : LOk w 2 HeaderD.cells x) (h0 : 0 < x.l.length) :
    ∃ g o, x.A = some ⟨g, o, none⟩ ∧ ∀ w', Below w.heap.size w w' → ∀ i (hi : i < x.l.length), w'.cell? ⟨g, o + i * 2, none⟩ = some (.string x.l[i].name) ∧ w'.cell? ⟨g, o + i * 2 + 1, none⟩ = some (.slice x.l[i].fields.A x.l[i].fields.l.length x.l[i].fields.c) := by
  rcases h.2 with e | ⟨g, o, e, _, hc⟩
  · rw [e] at h0; cases h0
  · exact ⟨g, o, e, fun w' hb i hi => ⟨below_cell hb (hc i hi 0 (by omega)), below_cell hb (hc i hi 1 (by omega))⟩⟩
theorem RegD.allA {w : World} {x : L RegD} (h : LOk w 3 RegD.cells x) (h0 : 0 < x.l.length) :
    ∃ g o, x.A = some ⟨g, o, none⟩ ∧ ∀ w', Below w.heap.size w w' → ∀ i (hi : i < x.l.length), w'.cell? ⟨g, o + i * 3, none⟩ = some (.string x.l[i].name) ∧ w'.cell? ⟨g, o + i * 3 + 1, none⟩ = some (.int .i64 x.l[i].width) ∧ w'.cell? ⟨g, o + i * 3 + 2, none⟩ = some (.int .i64 x.l[i].size) := by
  rcases h.2 with e | ⟨g, o, e, _, hc⟩
  · rw [e] at h0; cases h0
  · exact ⟨g, o, e, fun w' hb i hi => ⟨below_cell hb (hc i hi 0 (by omega)), below_cell hb (hc i hi 1 (by omega)), below_cell hb (hc i hi 2 (by omega))⟩⟩
theorem ActD.allA {w : World} {x : L ActD} (h : LOk w 3 ActD.cells x) (h0 : 0 < x.l.length) :
    ∃ g o, x.A = some ⟨g, o, none⟩ ∧ ∀ w', Below w.heap.size w w' → ∀ i (hi : i < x.l.length), w'.cell? ⟨g, o + i * 3, none⟩ = some (.string x.l[i].name) ∧ w'.cell? ⟨g, o + i * 3 + 1, none⟩ = some (.slice x.l[i].params.A x.l[i].params.l.length x.l[i].params.c) ∧ w'.cell? ⟨g, o + i * 3 + 2, none⟩ = some (.slice x.l[i].body.A x.l[i].body.l.length x.l[i].body.c) := by
  rcases h.2 with e | ⟨g, o, e, _, hc⟩
  · rw [e] at h0; cases h0
  · exact ⟨g, o, e, fun w' hb i hi => ⟨below_cell hb (hc i hi 0 (by omega)), below_cell hb (hc i hi 1 (by omega)), below_cell hb (hc i hi 2 (by omega))⟩⟩
theorem KeyD.allA {w : World} {x : L KeyD} (h : LOk w 3 KeyD.cells x) (h0 : 0 < x.l.length) :
    ∃ g o, x.A = some ⟨g, o, none⟩ ∧ ∀ w', Below w.heap.size w w' → ∀ i (hi : i < x.l.length), w'.cell? ⟨g, o + i * 3, none⟩ = some (.int .i64 x.l[i].h) ∧ w'.cell? ⟨g, o + i * 3 + 1, none⟩ = some (.int .i64 x.l[i].f) ∧ w'.cell? ⟨g, o + i * 3 + 2, none⟩ = some (.int .i64 x.l[i].kind) := by
  rcases h.2 with e | ⟨g, o, e, _, hc⟩
  · rw [e] at h0; cases h0
  · exact ⟨g, o, e, fun w' hb i hi => ⟨below_cell hb (hc i hi 0 (by omega)), below_cell hb (hc i hi 1 (by omega)), below_cell hb (hc i hi 2 (by omega))⟩⟩
theorem TabD.allA {w : World} {x : L TabD} (h : LOk w 6 TabD.cells x) (h0 : 0 < x.l.length) :
    ∃ g o, x.A = some ⟨g, o, none⟩ ∧ ∀ w', Below w.heap.size w w' → ∀ i (hi : i < x.l.length), w'.cell? ⟨g, o + i * 6, none⟩ = some (.string x.l[i].name) ∧ w'.cell? ⟨g, o + i * 6 + 1, none⟩ = some (.slice x.l[i].keys.A x.l[i].keys.l.length x.l[i].keys.c) ∧ w'.cell? ⟨g, o + i * 6 + 2, none⟩ = some (.slice x.l[i].acts.A x.l[i].acts.l.length x.l[i].acts.c) ∧ w'.cell? ⟨g, o + i * 6 + 3, none⟩ = some (.int .i64 x.l[i].defA) ∧ w'.cell? ⟨g, o + i * 6 + 4, none⟩ = some (.slice x.l[i].args.A x.l[i].args.l.length x.l[i].args.c) ∧ w'.cell? ⟨g, o + i * 6 + 5, none⟩ = some (.int .i64 x.l[i].size) := by
  rcases h.2 with e | ⟨g, o, e, _, hc⟩
  · rw [e] at h0; cases h0
  · exact ⟨g, o, e, fun w' hb i hi => ⟨below_cell hb (hc i hi 0 (by omega)), below_cell hb (hc i hi 1 (by omega)), below_cell hb (hc i hi 2 (by omega)), below_cell hb (hc i hi 3 (by omega)), below_cell hb (hc i hi 4 (by omega)), below_cell hb (hc i hi 5 (by omega))⟩⟩
theorem StateD.allA {w : World} {x : L StateD} (h : LOk w 7 StateD.cells x) (h0 : 0 < x.l.length) :
    ∃ g o, x.A = some ⟨g, o, none⟩ ∧ ∀ w', Below w.heap.size w w' → ∀ i (hi : i < x.l.length), w'.cell? ⟨g, o + i * 7, none⟩ = some (.string x.l[i].name) ∧ w'.cell? ⟨g, o + i * 7 + 1, none⟩ = some (.slice x.l[i].extract.A x.l[i].extract.l.length x.l[i].extract.c) ∧ w'.cell? ⟨g, o + i * 7 + 2, none⟩ = some (.bool x.l[i].sel) ∧ w'.cell? ⟨g, o + i * 7 + 3, none⟩ = some (.int .i64 x.l[i].oh) ∧ w'.cell? ⟨g, o + i * 7 + 4, none⟩ = some (.int .i64 x.l[i].of) ∧ w'.cell? ⟨g, o + i * 7 + 5, none⟩ = some (.slice x.l[i].cases.A x.l[i].cases.l.length x.l[i].cases.c) ∧ w'.cell? ⟨g, o + i * 7 + 6, none⟩ = some (.int .i64 x.l[i].dflt) := by
  rcases h.2 with e | ⟨g, o, e, _, hc⟩
  · rw [e] at h0; cases h0
  · exact ⟨g, o, e, fun w' hb i hi => ⟨below_cell hb (hc i hi 0 (by omega)), below_cell hb (hc i hi 1 (by omega)), below_cell hb (hc i hi 2 (by omega)), below_cell hb (hc i hi 3 (by omega)), below_cell hb (hc i hi 4 (by omega)), below_cell hb (hc i hi 5 (by omega)), below_cell hb (hc i hi 6 (by omega))⟩⟩
theorem StmtD.allA {w : World} {x : L StmtD} (h : LOk w 7 StmtD.cells x) (h0 : 0 < x.l.length) :
    ∃ g o, x.A = some ⟨g, o, none⟩ ∧ ∀ w', Below w.heap.size w w' → ∀ i (hi : i < x.l.length), w'.cell? ⟨g, o + i * 7, none⟩ = some (.int .i64 x.l[i].kind) ∧ w'.cell? ⟨g, o + i * 7 + 1, none⟩ = some (.int .i64 x.l[i].dh) ∧ w'.cell? ⟨g, o + i * 7 + 2, none⟩ = some (.int .i64 x.l[i].df) ∧ w'.cell? ⟨g, o + i * 7 + 3, none⟩ = some (.int .i64 x.l[i].reg) ∧ w'.cell? ⟨g, o + i * 7 + 4, none⟩ = some (.int .i64 x.l[i].hdr) ∧ w'.cell? ⟨g, o + i * 7 + 5, none⟩ = some (.slice x.l[i].index.A x.l[i].index.l.length x.l[i].index.c) ∧ w'.cell? ⟨g, o + i * 7 + 6, none⟩ = some (.slice x.l[i].value.A x.l[i].value.l.length x.l[i].value.c) := by
  rcases h.2 with e | ⟨g, o, e, _, hc⟩
  · rw [e] at h0; cases h0
  · exact ⟨g, o, e, fun w' hb i hi => ⟨below_cell hb (hc i hi 0 (by omega)), below_cell hb (hc i hi 1 (by omega)), below_cell hb (hc i hi 2 (by omega)), below_cell hb (hc i hi 3 (by omega)), below_cell hb (hc i hi 4 (by omega)), below_cell hb (hc i hi 5 (by omega)), below_cell hb (hc i hi 6 (by omega))⟩⟩
theorem CtlD.allA {w : World} {x : L CtlD} (h : LOk w 5 CtlD.cells x) (h0 : 0 < x.l.length) :
    ∃ g o, x.A = some ⟨g, o, none⟩ ∧ ∀ w', Below w.heap.size w w' → ∀ i (hi : i < x.l.length), w'.cell? ⟨g, o + i * 5, none⟩ = some (.int .i64 x.l[i].kind) ∧ w'.cell? ⟨g, o + i * 5 + 1, none⟩ = some (.int .i64 x.l[i].table) ∧ w'.cell? ⟨g, o + i * 5 + 2, none⟩ = some (.slice x.l[i].cond.A x.l[i].cond.l.length x.l[i].cond.c) ∧ w'.cell? ⟨g, o + i * 5 + 3, none⟩ = some (.slice x.l[i].th.A x.l[i].th.l.length x.l[i].th.c) ∧ w'.cell? ⟨g, o + i * 5 + 4, none⟩ = some (.slice x.l[i].el.A x.l[i].el.l.length x.l[i].el.c) := by
  rcases h.2 with e | ⟨g, o, e, _, hc⟩
  · rw [e] at h0; cases h0
  · exact ⟨g, o, e, fun w' hb i hi => ⟨below_cell hb (hc i hi 0 (by omega)), below_cell hb (hc i hi 1 (by omega)), below_cell hb (hc i hi 2 (by omega)), below_cell hb (hc i hi 3 (by omega)), below_cell hb (hc i hi 4 (by omega))⟩⟩
theorem icell_allA {w : World} {x : L Int} (h : LOk w 1 icell x) (h0 : 0 < x.l.length) : ∃ g o, x.A = some ⟨g, o, none⟩ ∧ ∀ w', Below w.heap.size w w' → ∀ i (hi : i < x.l.length), w'.cell? ⟨g, o + i, none⟩ = some (.int .i64 x.l[i]) := by
  rcases h.2 with e | ⟨g, o, e, _, hc⟩
  · rw [e] at h0; cases h0
  · exact ⟨g, o, e, fun w' hb i hi => below_cell hb (by have := hc i hi 0 (by omega); rw [Nat.mul_one] at this; exact this)⟩
theorem ucell_allA {w : World} {x : L Int} (h : LOk w 1 ucell x) (h0 : 0 < x.l.length) : ∃ g o, x.A = some ⟨g, o, none⟩ ∧ ∀ w', Below w.heap.size w w' → ∀ i (hi : i < x.l.length), w'.cell? ⟨g, o + i, none⟩ = some (.int .u32 x.l[i]) := by
  rcases h.2 with e | ⟨g, o, e, _, hc⟩
  · rw [e] at h0; cases h0
  · exact ⟨g, o, e, fun w' hb i hi => below_cell hb (by have := hc i hi 0 (by omega); rw [Nat.mul_one] at this; exact this)⟩
end Go.Proofs.YtbfjknidinkafaaGreat

