/- Small facts on control nodes and boxes that several walks use. No condition. -/
import Derived.Test.YtbfjknidinkafaaGreatBaA
import Derived.Test.YtbfjknidinkafaaGreatCkW
import Derived.Maps.AppendAt
import Derived.Deep.RegionLaw
import Derived.Deep.RegionHeld3
import Derived.Lib.SliceRun
import Derived.Laws.StructEq
import Derived.BigQuiet
namespace Go.Proofs.YtbfjknidinkafaaGreat
open Go.RowKit

theorem boxC (w : World) (cs : Array Value) (t : TypeId) (cs2 : Array Value) (t2 : TypeId) : ∃ W, W = (w.alloc (.cells cs t)).alloc (.cells cs2 t2) ∧ Below w.heap.size w W ∧ Below W.heap.size W W ∧ W.heap.size = w.heap.size + 2 ∧
    ∀ w', Below W.heap.size W w' → (∀ i, i < cs.size → w'.cell? ⟨w.heap.size, i, none⟩ = cs[i]?) ∧ (∀ i, i < cs2.size → w'.cell? ⟨w.heap.size + 1, i, none⟩ = cs2[i]?) ∧ (∀ i, w'.frozen? ⟨w.heap.size, i, none⟩ = false) ∧ (∀ i, w'.frozen? ⟨w.heap.size + 1, i, none⟩ = false) ∧ Blk w' (w.heap.size + 1) t2 cs2 := by
  have h1 : Blk ((w.alloc (.cells cs t)).alloc (.cells cs2 t2)) w.heap.size t cs := (Blk.new _ _ _).alloc _
  have h2 : Blk ((w.alloc (.cells cs t)).alloc (.cells cs2 t2)) (w.heap.size + 1) t2 cs2 := by simpa using Blk.new (w.alloc (.cells cs t)) t2 cs2
  refine ⟨_, rfl, below2 _ _ _, Below.refl _ _, by simp, fun w' hb => ⟨fun i _ => (h1.below hb h1.lt).cell i, fun i _ => (h2.below hb h2.lt).cell i, fun i => (h1.below hb h1.lt).frozen i, fun i => (h2.below hb h2.lt).frozen i, h2.below hb h2.lt⟩⟩

/-- the lists of control nodes are no longer than memory -/
inductive CtlCaps : List CtlD → Prop
  | nil : CtlCaps []
  | cons {k t : Int} {cond : L NodeD} {th el : List CtlD} {tA eA : Option Addr} {tc ec : Nat} {l : List CtlD} : th.length ≤ 4398046511104 → el.length ≤ 4398046511104 → CtlCaps th → CtlCaps el → CtlCaps l → CtlCaps (.mk k t cond th el tA eA tc ec :: l)
theorem CtlCaps.mem {x : CtlD} : ∀ {l : List CtlD}, CtlCaps l → x ∈ l → x.th.l.length ≤ 4398046511104 ∧ x.el.l.length ≤ 4398046511104 ∧ CtlCaps x.th.l ∧ CtlCaps x.el.l
  | _ :: l, .cons h1 h2 h3 h4 h5, hm => by
    rcases List.mem_cons.1 hm with rfl | hm
    · exact ⟨h1, h2, h3, h4⟩
    · exact h5.mem hm
theorem pres_sum : ∀ (l : List CtlD), (presM l).length = (l.map fun x => (preM x).length).sum
  | [] => rfl
  | x :: l => by rw [presM, List.length_append, pres_sum l]; rfl
theorem sum_mem {f : CtlD → Nat} : ∀ {l : List CtlD} {x : CtlD}, x ∈ l → f x ≤ (l.map f).sum
  | y :: l, x, h => by
    simp only [List.map_cons, List.sum_cons]
    rcases List.mem_cons.1 h with rfl | h
    · omega
    · have := sum_mem (f := f) h; omega
theorem pres_of {l : List CtlD} {y z : CtlD} (hy : y ∈ l) (hz : z ∈ preM y) : z ∈ presM l := by
  induction l with
  | nil => cases hy
  | cons x l ih =>
    rw [presM, List.mem_append]
    rcases List.mem_cons.1 hy with rfl | hy
    · exact .inl hz
    · exact .inr (ih hy)
theorem pres_th {l : List CtlD} {y : CtlD} (hy : y ∈ l) : (presM y.th.l).length < (presM l).length ∧ (∀ z ∈ presM y.th.l, z ∈ presM l) ∧ (presM y.el.l).length < (presM l).length ∧ (∀ z ∈ presM y.el.l, z ∈ presM l) ∧ y ∈ presM l := by
  have h1 := sum_mem (f := fun x => (preM x).length) hy
  rw [← pres_sum, preM_eq, List.length_cons, List.length_append] at h1
  refine ⟨by omega, fun z hz => pres_of hy ?_, by omega, fun z hz => pres_of hy ?_, pres_of hy ?_⟩
  all_goals rw [preM_eq]
  · exact List.mem_cons_of_mem _ (List.mem_append_left _ hz)
  · exact List.mem_cons_of_mem _ (List.mem_append_right _ hz)
  · exact List.mem_cons_self ..
theorem info_ctl : (Tryz.prog.info? 169).map (fun i => (i.zero, i.size, i.bytes)) = some (some (.agg #[.int .i64 0, .int .i64 0, .slice none 0 0, .slice none 0 0, .slice none 0 0]), 5, 88) := by kernel_rfl
/-- e is a Bool that tells whether p holds -/
def Says (e : Ending) (p : Prop) : Prop := ∃ b : Bool, e = .returned (.bool b) ∧ (b = true ↔ p)
theorem Says.yes {p : Prop} (h : p) : Says (.returned (.bool true)) p := ⟨true, rfl, by simp [h]⟩
theorem Says.no {p : Prop} (h : ¬ p) : Says (.returned (.bool false)) p := ⟨false, rfl, by simp [h]⟩
theorem Says.congr {e : Ending} {p q : Prop} (h : Says e p) (hpq : p ↔ q) : Says e q := by
  obtain ⟨b, e, hb⟩ := h
  exact ⟨b, e, hb.trans hpq⟩
theorem take_step {α : Type} {xs ys : List α} {k : Nat} (hx : k < xs.length) (hy : k < ys.length) (h : xs.take k = ys.take k) (he : xs[k] = ys[k]) : xs.take (k + 1) = ys.take (k + 1) := by
  rw [List.take_succ_eq_append_getElem hx, List.take_succ_eq_append_getElem hy, h, he]
theorem str_ne {a b : ByteArray} (h : a ≠ b) : (a.toList == b.toList) = false := toList_false h

theorem neq_field (x y : FieldD) : ∃ b : Bool, (b = false ↔ x = y) ∧ ∀ w, Sem.run Tryz.prog (binOp .neq 135 (.agg #[.string x.name, .int .i64 x.width]) (.agg #[.string y.name, .int .i64 y.width])) w = .ok (.bool b) w := by
  refine ⟨!((x.name.toList == y.name.toList) && (x.width == y.width)), ?_, fun w => ?_⟩
  · obtain ⟨a0, a1⟩ := x
    obtain ⟨b0, b1⟩ := y
    simp [FieldD.mk.injEq, toList_inj]
  · have hS : Tryz.prog.underlying 135 = some (.struct (Tryz.prog.fieldsOf 135)) := by kernel_rfl
    have hp : Tryz.prog.stoodInHeld 135 = false := by kernel_rfl
    have u0 := Tryz.underlying3
    have a0 := Tryz.isAgg3
    have z0 := Tryz.sizeOf3
    have u1 := Tryz.underlying9
    have a1 := Tryz.isAgg9
    have z1 := Tryz.sizeOf9
    rw [run_neq_struct, show (10000 : Nat) = 9999 + 1 from rfl, run_equalIn_agg w 9999 135 _ _ hS hp]
    simp only [Program.fieldsOf, Tryz.underlying135]
    go_simp
    repeat' split
    all_goals simp_all

end Go.Proofs.YtbfjknidinkafaaGreat

