/- Programs as they lie in memory: the data with the places of their lists, and that a later world still holds them. -/
import Derived.Test.YtbfjknidinkafaaGreatKit
namespace Go.Proofs.YtbfjknidinkafaaGreat
open Go.RowKit

theorem below1 (w : World) (o : Obj) : Below w.heap.size w (w.alloc o) := below_alloc (Below.refl _ _) o
theorem below2 (w : World) (o o2 : Obj) : Below w.heap.size w ((w.alloc o).alloc o2) := below_alloc (below1 w o) o2
theorem below3 (w : World) (o o2 o3 : Obj) : Below w.heap.size w (((w.alloc o).alloc o2).alloc o3) := below_alloc (below2 w o o2) o3
theorem below_step {w w1 w2 : World} (h : Below w.heap.size w w1) (h2 : Below w1.heap.size w1 w2) : Below w.heap.size w w2 := h.trans (h2.mono h.size)
theorem below_drew {w w1 : World} (h : Below w.heap.size w w1) : Below w.heap.size w w1.drew := h.drew
theorem below_cell {w w1 : World} {a : Addr} {v : Value} (h : Below w.heap.size w w1) (hc : w.cell? a = some v) : w1.cell? a = some v := (h.cell (World.block_lt_of_cell? w a hc)).trans hc
/-- a list and the slice that holds it -/
structure L (α : Type) where
  l : List α
  A : Option Addr
  c : Nat
@[reducible] def L.v {α : Type} (x : L α) : Value := .slice x.A x.l.length x.c
/-- the list lies in the world, 'k' cells an element -/
def LOk (w : World) (k : Nat) {α : Type} (cells : α → List Value) (x : L α) : Prop :=
  x.l.length ≤ maxLen ∧ (x.l = [] ∨ ∃ g o, x.A = some ⟨g, o, none⟩ ∧ g < w.heap.size ∧ ∀ i (hi : i < x.l.length) j, j < k → w.cell? ⟨g, o + i * k + j, none⟩ = (cells x.l[i])[j]?)
theorem LOk.below {w w' : World} {B k : Nat} {α : Type} {cells : α → List Value} {x : L α} (h : LOk w k cells x) (hb : Below B w w') (hB : w.heap.size ≤ B) : LOk w' k cells x := by
  refine ⟨h.1, ?_⟩
  rcases h.2 with h | ⟨g, o, e, hx, hc⟩
  · exact .inl h
  · exact .inr ⟨g, o, e, Nat.lt_of_lt_of_le hx hb.size, fun i hi j hj => (hb.cell (p := ⟨g, o + i * k + j, none⟩) (Nat.lt_of_lt_of_le hx hB)).trans (hc i hi j hj)⟩
theorem LOk.at {w : World} {k : Nat} {α : Type} {cells : α → List Value} {x : L α} (h : LOk w k cells x) {i : Nat} (hi : i < x.l.length) :
    ∃ g o, x.A = some ⟨g, o, none⟩ ∧ g < w.heap.size ∧ ∀ j, j < k → w.cell? ⟨g, o + i * k + j, none⟩ = (cells x.l[i])[j]? := by
  rcases h.2 with h | ⟨g, o, e, hx, hc⟩
  · rw [h] at hi; simp at hi
  · exact ⟨g, o, e, hx, fun j hj => hc i hi j hj⟩

structure FieldD where
  name : ByteArray
  width : Int
def FieldD.cells (f : FieldD) : List Value := [.string f.name, .int .i64 f.width]
structure HeaderD where
  name : ByteArray
  fields : L FieldD
def HeaderD.cells (h : HeaderD) : List Value := [.string h.name, h.fields.v]
structure RegD where
  name : ByteArray
  width : Int
  size : Int
def RegD.cells (r : RegD) : List Value := [.string r.name, .int .i64 r.width, .int .i64 r.size]
structure NodeD where
  op : Int
  n : Int
  w : Int
def NodeD.cells (x : NodeD) : List Value := [.int .i64 x.op, .int .i64 x.n, .int .i64 x.w]
structure StmtD where
  kind : Int
  dh : Int
  df : Int
  reg : Int
  hdr : Int
  index : L NodeD
  value : L NodeD
def StmtD.cells (s : StmtD) : List Value := [.int .i64 s.kind, .int .i64 s.dh, .int .i64 s.df, .int .i64 s.reg, .int .i64 s.hdr, s.index.v, s.value.v]
structure ActD where
  name : ByteArray
  params : L FieldD
  body : L StmtD
def ActD.cells (a : ActD) : List Value := [.string a.name, a.params.v, a.body.v]
structure KeyD where
  h : Int
  f : Int
  kind : Int
def KeyD.cells (k : KeyD) : List Value := [.int .i64 k.h, .int .i64 k.f, .int .i64 k.kind]
def icell (n : Int) : List Value := [.int .i64 n]
def ucell (n : Int) : List Value := [.int .u32 n]
structure TabD where
  name : ByteArray
  keys : L KeyD
  acts : L Int
  defA : Int
  args : L Int
  size : Int
def TabD.cells (t : TabD) : List Value := [.string t.name, t.keys.v, t.acts.v, .int .i64 t.defA, t.args.v, .int .i64 t.size]
structure CaseD where
  value : Int
  mask : Int
  next : Int
def CaseD.cells (c : CaseD) : List Value := [.int .u32 c.value, .int .u32 c.mask, .int .i64 c.next]
structure StateD where
  name : ByteArray
  extract : L Int
  sel : Bool
  oh : Int
  of : Int
  cases : L CaseD
  dflt : Int
def StateD.cells (s : StateD) : List Value := [.string s.name, s.extract.v, .bool s.sel, .int .i64 s.oh, .int .i64 s.of, s.cases.v, .int .i64 s.dflt]
/-- a control node; the lists of its branches with their places -/
inductive CtlD where
  | mk (kind table : Int) (cond : L NodeD) (th el : List CtlD) (tA eA : Option Addr) (tc ec : Nat)
def CtlD.kind : CtlD → Int | .mk k _ _ _ _ _ _ _ _ => k
def CtlD.table : CtlD → Int | .mk _ t _ _ _ _ _ _ _ => t
def CtlD.cond : CtlD → L NodeD | .mk _ _ c _ _ _ _ _ _ => c
def CtlD.th : CtlD → L CtlD | .mk _ _ _ t _ A _ c _ => ⟨t, A, c⟩
def CtlD.el : CtlD → L CtlD | .mk _ _ _ _ e _ A _ c => ⟨e, A, c⟩
def CtlD.cells (x : CtlD) : List Value := [.int .i64 x.kind, .int .i64 x.table, x.cond.v, x.th.v, x.el.v]
structure ProgD where
  name : ByteArray
  headers : L HeaderD
  metadata : L FieldD
  registers : L RegD
  actions : L ActD
  tables : L TabD
  states : L StateD
  control : L CtlD
  deparser : L Int
@[reducible] def ProgD.val (p : ProgD) : Value := .agg #[.string p.name, p.headers.v, p.metadata.v, p.registers.v, p.actions.v, p.tables.v, p.states.v, p.control.v, p.deparser.v]

/-- names and lists of fields -/
def NameOk (s : ByteArray) : Prop := s.size ≤ maxLen
structure HeaderOk (w : World) (h : HeaderD) : Prop where
  name : NameOk h.name
  fields : LOk w 2 FieldD.cells h.fields
  names : ∀ f ∈ h.fields.l, NameOk f.name
structure StmtOk (w : World) (s : StmtD) : Prop where
  index : LOk w 3 NodeD.cells s.index
  value : LOk w 3 NodeD.cells s.value
structure ActOk (w : World) (a : ActD) : Prop where
  name : NameOk a.name
  params : LOk w 2 FieldD.cells a.params
  pnames : ∀ f ∈ a.params.l, NameOk f.name
  body : LOk w 7 StmtD.cells a.body
  stmts : ∀ s ∈ a.body.l, StmtOk w s
structure TabOk (w : World) (t : TabD) : Prop where
  name : NameOk t.name
  keys : LOk w 3 KeyD.cells t.keys
  acts : LOk w 1 icell t.acts
  args : LOk w 1 ucell t.args
structure StateOk (w : World) (s : StateD) : Prop where
  name : NameOk s.name
  extract : LOk w 1 icell s.extract
  cases : LOk w 3 CaseD.cells s.cases
mutual
def CtlOk (w : World) : CtlD → Prop
  | .mk _ _ cond th el tA eA tc ec => LOk w 3 NodeD.cells cond ∧ LOk w 5 CtlD.cells ⟨th, tA, tc⟩ ∧ LOk w 5 CtlD.cells ⟨el, eA, ec⟩ ∧ CtlsOk w th ∧ CtlsOk w el
def CtlsOk (w : World) : List CtlD → Prop
  | [] => True
  | x :: l => CtlOk w x ∧ CtlsOk w l
end
structure ProgOk (w : World) (p : ProgD) : Prop where
  name : NameOk p.name
  headers : LOk w 2 HeaderD.cells p.headers
  hdr : ∀ h ∈ p.headers.l, HeaderOk w h
  metadata : LOk w 2 FieldD.cells p.metadata
  mnames : ∀ f ∈ p.metadata.l, NameOk f.name
  registers : LOk w 3 RegD.cells p.registers
  rnames : ∀ r ∈ p.registers.l, NameOk r.name
  actions : LOk w 3 ActD.cells p.actions
  act : ∀ a ∈ p.actions.l, ActOk w a
  tables : LOk w 6 TabD.cells p.tables
  tab : ∀ t ∈ p.tables.l, TabOk w t
  states : LOk w 7 StateD.cells p.states
  state : ∀ s ∈ p.states.l, StateOk w s
  control : LOk w 5 CtlD.cells p.control
  ctl : CtlsOk w p.control.l
  deparser : LOk w 1 icell p.deparser

section
variable {w w' : World} (hb : Below w.heap.size w w')
theorem HeaderOk.below {h : HeaderD} (o : HeaderOk w h) (hb : Below w.heap.size w w') : HeaderOk w' h := ⟨o.name, o.fields.below hb (Nat.le_refl _), o.names⟩
theorem StmtOk.below {s : StmtD} (o : StmtOk w s) (hb : Below w.heap.size w w') : StmtOk w' s := ⟨o.index.below hb (Nat.le_refl _), o.value.below hb (Nat.le_refl _)⟩
theorem ActOk.below {a : ActD} (o : ActOk w a) (hb : Below w.heap.size w w') : ActOk w' a :=
  ⟨o.name, o.params.below hb (Nat.le_refl _), o.pnames, o.body.below hb (Nat.le_refl _), fun s hs => (o.stmts s hs).below hb⟩
theorem TabOk.below {t : TabD} (o : TabOk w t) (hb : Below w.heap.size w w') : TabOk w' t :=
  ⟨o.name, o.keys.below hb (Nat.le_refl _), o.acts.below hb (Nat.le_refl _), o.args.below hb (Nat.le_refl _)⟩
theorem StateOk.below {s : StateD} (o : StateOk w s) (hb : Below w.heap.size w w') : StateOk w' s :=
  ⟨o.name, o.extract.below hb (Nat.le_refl _), o.cases.below hb (Nat.le_refl _)⟩
mutual
theorem CtlOk.below {w w' : World} (hb : Below w.heap.size w w') : ∀ {x : CtlD}, CtlOk w x → CtlOk w' x
  | .mk _ _ _ _ _ _ _ _ _, o => by
    rw [CtlOk] at o ⊢
    exact ⟨o.1.below hb (Nat.le_refl _), o.2.1.below hb (Nat.le_refl _), o.2.2.1.below hb (Nat.le_refl _), CtlsOk.below hb o.2.2.2.1, CtlsOk.below hb o.2.2.2.2⟩
theorem CtlsOk.below {w w' : World} (hb : Below w.heap.size w w') : ∀ {l : List CtlD}, CtlsOk w l → CtlsOk w' l
  | [], _ => by rw [CtlsOk]; trivial
  | x :: l, o => by
    rw [CtlsOk] at o ⊢
    exact ⟨CtlOk.below hb o.1, CtlsOk.below hb o.2⟩
end
theorem ProgOk.below {p : ProgD} (o : ProgOk w p) (hb : Below w.heap.size w w') : ProgOk w' p :=
  ⟨o.name, o.headers.below hb (Nat.le_refl _), fun h hh => (o.hdr h hh).below hb, o.metadata.below hb (Nat.le_refl _), o.mnames, o.registers.below hb (Nat.le_refl _), o.rnames,
   o.actions.below hb (Nat.le_refl _), fun a ha => (o.act a ha).below hb, o.tables.below hb (Nat.le_refl _), fun t ht => (o.tab t ht).below hb, o.states.below hb (Nat.le_refl _),
   fun s hs => (o.state s hs).below hb, o.control.below hb (Nat.le_refl _), CtlsOk.below hb o.ctl, o.deparser.below hb (Nat.le_refl _)⟩
end
theorem NodeD.at {w : World} {x : L NodeD} (h : LOk w 3 NodeD.cells x) {i : Nat} (hi : i < x.l.length) :
    ∃ g o, x.A = some ⟨g, o, none⟩ ∧ w.cell? ⟨g, o + i * 3, none⟩ = some (.int .i64 x.l[i].op) ∧ w.cell? ⟨g, o + i * 3 + 1, none⟩ = some (.int .i64 x.l[i].n) ∧ w.cell? ⟨g, o + i * 3 + 2, none⟩ = some (.int .i64 x.l[i].w) := by
  obtain ⟨g, o, e, _, hc⟩ := h.at hi
  exact ⟨g, o, e, hc 0 (by omega), hc 1 (by omega), hc 2 (by omega)⟩
theorem FieldD.at {w : World} {x : L FieldD} (h : LOk w 2 FieldD.cells x) {i : Nat} (hi : i < x.l.length) :
    ∃ g o, x.A = some ⟨g, o, none⟩ ∧ w.cell? ⟨g, o + i * 2, none⟩ = some (.string x.l[i].name) ∧ w.cell? ⟨g, o + i * 2 + 1, none⟩ = some (.int .i64 x.l[i].width) := by
  obtain ⟨g, o, e, _, hc⟩ := h.at hi
  exact ⟨g, o, e, hc 0 (by omega), hc 1 (by omega)⟩
theorem HeaderD.at {w : World} {x : L HeaderD} (h : LOk w 2 HeaderD.cells x) {i : Nat} (hi : i < x.l.length) :
    ∃ g o, x.A = some ⟨g, o, none⟩ ∧ w.cell? ⟨g, o + i * 2, none⟩ = some (.string x.l[i].name) ∧ w.cell? ⟨g, o + i * 2 + 1, none⟩ = some (x.l[i].fields.v) := by
  obtain ⟨g, o, e, _, hc⟩ := h.at hi
  exact ⟨g, o, e, hc 0 (by omega), hc 1 (by omega)⟩
theorem RegD.at {w : World} {x : L RegD} (h : LOk w 3 RegD.cells x) {i : Nat} (hi : i < x.l.length) :
    ∃ g o, x.A = some ⟨g, o, none⟩ ∧ w.cell? ⟨g, o + i * 3, none⟩ = some (.string x.l[i].name) ∧ w.cell? ⟨g, o + i * 3 + 1, none⟩ = some (.int .i64 x.l[i].width) ∧ w.cell? ⟨g, o + i * 3 + 2, none⟩ = some (.int .i64 x.l[i].size) := by
  obtain ⟨g, o, e, _, hc⟩ := h.at hi
  exact ⟨g, o, e, hc 0 (by omega), hc 1 (by omega), hc 2 (by omega)⟩
theorem ActD.at {w : World} {x : L ActD} (h : LOk w 3 ActD.cells x) {i : Nat} (hi : i < x.l.length) :
    ∃ g o, x.A = some ⟨g, o, none⟩ ∧ w.cell? ⟨g, o + i * 3, none⟩ = some (.string x.l[i].name) ∧ w.cell? ⟨g, o + i * 3 + 1, none⟩ = some (x.l[i].params.v) ∧ w.cell? ⟨g, o + i * 3 + 2, none⟩ = some (x.l[i].body.v) := by
  obtain ⟨g, o, e, _, hc⟩ := h.at hi
  exact ⟨g, o, e, hc 0 (by omega), hc 1 (by omega), hc 2 (by omega)⟩
theorem KeyD.at {w : World} {x : L KeyD} (h : LOk w 3 KeyD.cells x) {i : Nat} (hi : i < x.l.length) :
    ∃ g o, x.A = some ⟨g, o, none⟩ ∧ w.cell? ⟨g, o + i * 3, none⟩ = some (.int .i64 x.l[i].h) ∧ w.cell? ⟨g, o + i * 3 + 1, none⟩ = some (.int .i64 x.l[i].f) ∧ w.cell? ⟨g, o + i * 3 + 2, none⟩ = some (.int .i64 x.l[i].kind) := by
  obtain ⟨g, o, e, _, hc⟩ := h.at hi
  exact ⟨g, o, e, hc 0 (by omega), hc 1 (by omega), hc 2 (by omega)⟩
theorem TabD.at {w : World} {x : L TabD} (h : LOk w 6 TabD.cells x) {i : Nat} (hi : i < x.l.length) :
    ∃ g o, x.A = some ⟨g, o, none⟩ ∧ w.cell? ⟨g, o + i * 6, none⟩ = some (.string x.l[i].name) ∧ w.cell? ⟨g, o + i * 6 + 1, none⟩ = some (x.l[i].keys.v) ∧ w.cell? ⟨g, o + i * 6 + 2, none⟩ = some (x.l[i].acts.v) ∧ w.cell? ⟨g, o + i * 6 + 3, none⟩ = some (.int .i64 x.l[i].defA) ∧ w.cell? ⟨g, o + i * 6 + 4, none⟩ = some (x.l[i].args.v) ∧ w.cell? ⟨g, o + i * 6 + 5, none⟩ = some (.int .i64 x.l[i].size) := by
  obtain ⟨g, o, e, _, hc⟩ := h.at hi
  exact ⟨g, o, e, hc 0 (by omega), hc 1 (by omega), hc 2 (by omega), hc 3 (by omega), hc 4 (by omega), hc 5 (by omega)⟩
theorem StateD.at {w : World} {x : L StateD} (h : LOk w 7 StateD.cells x) {i : Nat} (hi : i < x.l.length) :
    ∃ g o, x.A = some ⟨g, o, none⟩ ∧ w.cell? ⟨g, o + i * 7, none⟩ = some (.string x.l[i].name) ∧ w.cell? ⟨g, o + i * 7 + 1, none⟩ = some (x.l[i].extract.v) ∧ w.cell? ⟨g, o + i * 7 + 2, none⟩ = some (.bool x.l[i].sel) ∧ w.cell? ⟨g, o + i * 7 + 3, none⟩ = some (.int .i64 x.l[i].oh) ∧ w.cell? ⟨g, o + i * 7 + 4, none⟩ = some (.int .i64 x.l[i].of) ∧ w.cell? ⟨g, o + i * 7 + 5, none⟩ = some (x.l[i].cases.v) ∧ w.cell? ⟨g, o + i * 7 + 6, none⟩ = some (.int .i64 x.l[i].dflt) := by
  obtain ⟨g, o, e, _, hc⟩ := h.at hi
  exact ⟨g, o, e, hc 0 (by omega), hc 1 (by omega), hc 2 (by omega), hc 3 (by omega), hc 4 (by omega), hc 5 (by omega), hc 6 (by omega)⟩
theorem StmtD.at {w : World} {x : L StmtD} (h : LOk w 7 StmtD.cells x) {i : Nat} (hi : i < x.l.length) :
    ∃ g o, x.A = some ⟨g, o, none⟩ ∧ w.cell? ⟨g, o + i * 7, none⟩ = some (.int .i64 x.l[i].kind) ∧ w.cell? ⟨g, o + i * 7 + 1, none⟩ = some (.int .i64 x.l[i].dh) ∧ w.cell? ⟨g, o + i * 7 + 2, none⟩ = some (.int .i64 x.l[i].df) ∧ w.cell? ⟨g, o + i * 7 + 3, none⟩ = some (.int .i64 x.l[i].reg) ∧ w.cell? ⟨g, o + i * 7 + 4, none⟩ = some (.int .i64 x.l[i].hdr) ∧ w.cell? ⟨g, o + i * 7 + 5, none⟩ = some (x.l[i].index.v) ∧ w.cell? ⟨g, o + i * 7 + 6, none⟩ = some (x.l[i].value.v) := by
  obtain ⟨g, o, e, _, hc⟩ := h.at hi
  exact ⟨g, o, e, hc 0 (by omega), hc 1 (by omega), hc 2 (by omega), hc 3 (by omega), hc 4 (by omega), hc 5 (by omega), hc 6 (by omega)⟩
theorem CtlD.at {w : World} {x : L CtlD} (h : LOk w 5 CtlD.cells x) {i : Nat} (hi : i < x.l.length) :
    ∃ g o, x.A = some ⟨g, o, none⟩ ∧ w.cell? ⟨g, o + i * 5, none⟩ = some (.int .i64 x.l[i].kind) ∧ w.cell? ⟨g, o + i * 5 + 1, none⟩ = some (.int .i64 x.l[i].table) ∧ w.cell? ⟨g, o + i * 5 + 2, none⟩ = some (x.l[i].cond.v) ∧ w.cell? ⟨g, o + i * 5 + 3, none⟩ = some (x.l[i].th.v) ∧ w.cell? ⟨g, o + i * 5 + 4, none⟩ = some (x.l[i].el.v) := by
  obtain ⟨g, o, e, _, hc⟩ := h.at hi
  exact ⟨g, o, e, hc 0 (by omega), hc 1 (by omega), hc 2 (by omega), hc 3 (by omega), hc 4 (by omega)⟩
theorem icell_at {w : World} {x : L Int} (h : LOk w 1 icell x) {i : Nat} (hi : i < x.l.length) : ∃ g o, x.A = some ⟨g, o, none⟩ ∧ w.cell? ⟨g, o + i, none⟩ = some (.int .i64 x.l[i]) := by
  obtain ⟨g, o, e, _, hc⟩ := h.at hi
  exact ⟨g, o, e, by have := hc 0 (by omega); rw [Nat.mul_one] at this; exact this⟩
theorem ucell_at {w : World} {x : L Int} (h : LOk w 1 ucell x) {i : Nat} (hi : i < x.l.length) : ∃ g o, x.A = some ⟨g, o, none⟩ ∧ w.cell? ⟨g, o + i, none⟩ = some (.int .u32 x.l[i]) := by
  obtain ⟨g, o, e, _, hc⟩ := h.at hi
  exact ⟨g, o, e, by have := hc 0 (by omega); rw [Nat.mul_one] at this; exact this⟩
end Go.Proofs.YtbfjknidinkafaaGreat

