/- Programs without the places of their lists, and lists that lie in memory of a call's own. No condition. -/
import Derived.Test.YtbfjknidinkafaaGreatProg
import Derived.WalkKit
import Derived.WalkSpells
import Derived.WalkLawsBesides
import Derived.Lib.Hide
import Derived.Deep.QuietTactic
import Derived.BigQuiet
import Derived.Below
import Derived.Laws.OwnMore
import Derived.Deep.Draws
import Derived.Laws.Rows
import Derived.Laws.ResultCell
import Derived.Deep.OwnRows
import Derived.OwnWalk
import Derived.WalkMore
import Derived.Deep.LoopGhost
import Derived.Laws.AppendOwn
import Derived.Laws.AppendOwnNone
import Derived.RowKit3
import Derived.Deep.RegionHeld3
import Derived.Lib.SlicesS
import Derived.Test.YtbfjknidinkafaaGreatShelf
import Derived.Deep.AppendLies
import Derived.Deep.Cut
namespace Go.Proofs.YtbfjknidinkafaaGreat
open Go.RowKit
set_option maxRecDepth 100000
set_option maxHeartbeats 16000000
theorem sA {α : Type} {l : List α} {i : Nat} {a : α} : l.toArray.setIfInBounds i a = (l.set i a).toArray := List.setIfInBounds_toArray ..
theorem sZ {α : Type} {x : α} {l : List α} {a : α} : (x :: l).set 0 a = a :: l := List.set_cons_zero
theorem sS {α : Type} {x : α} {l : List α} {n : Nat} {a : α} : (x :: l).set (n + 1) a = x :: l.set n a := List.set_cons_succ
theorem hi_ {p : Prop} (h : p) : Hid p := Lib.hid h
theorem ret_bool {a b : Bool} (h : a = b) : Ending.returned (.bool a) = .returned (.bool b) := by rw [h]
theorem ret_int {k : IntKind} {a b : Int} (h : a = b) : Ending.returned (.int k a) = .returned (.int k b) := by rw [h]
theorem toList_data (s : ByteArray) : s.toList = s.data.toList := ByteArray.toList_eq s
theorem below_drewN {B : Nat} {a w : World} (h : Below B a w) (n : Nat) : Below B a (w.drewN n) := ⟨h.os, h.tape, h.output, h.size, h.block⟩
def Blk (w : World) (g : Nat) (t : TypeId) (cs : Array Value) : Prop := w.heap[g]? = some (.cells cs t (0, 0))
section
variable {w w' : World} {g : Nat} {t : TypeId} {cs : Array Value}
theorem Blk.lt (h : Blk w g t cs) : g < w.heap.size := by
  rcases Nat.lt_or_ge g w.heap.size with hlt | hge
  · exact hlt
  · unfold Blk at h; rw [Array.getElem?_eq_none hge] at h; cases h
theorem Blk.cell (h : Blk w g t cs) (i : Nat) : w.cell? ⟨g, i, none⟩ = cs[i]? := cell_of_row w g i cs t (0, 0) h
theorem Blk.frozen (h : Blk w g t cs) (i : Nat) : w.frozen? ⟨g, i, none⟩ = false := by
  unfold Blk at h
  simp [World.frozen?, h]
theorem Blk.new (w : World) (t : TypeId) (cs : Array Value) : Blk (w.alloc (.cells cs t)) w.heap.size t cs := heap_alloc_new w _
theorem Blk.drew (h : Blk w g t cs) : Blk w.drew g t cs := h
theorem Blk.drewN (h : Blk w g t cs) (n : Nat) : Blk (w.drewN n) g t cs := h
theorem Blk.alloc (h : Blk w g t cs) (o : Obj) : Blk (w.alloc o) g t cs := (Below.heap_alloc w o g h.lt).trans h
theorem Blk.set_ (h : Blk w g t cs) (i : Nat) (u : Value) : Blk (w.setCell ⟨g, i, none⟩ u) g t (cs.setIfInBounds i u) := by
  unfold Blk at h ⊢
  simp [World.setCell, Array.getElem?_modify, h]
theorem Blk.far (h : Blk w g t cs) {p : Addr} (hp : g ≠ p.block) (u : Value) : Blk (w.setCell p u) g t cs := (Below.heap_setCell w p u g hp).trans h
theorem Blk.below {B : Nat} (h : Blk w g t cs) (hb : Below B w w') (hg : g < B) : Blk w' g t cs := (hb.block g hg).trans h
theorem Blk.grown {row : Option Nat} (h : Blk w g t cs) (hb : w.grownBy w' row) (hg : some g ≠ row) : Blk w' g t cs := (hb.block g h.lt hg).trans h
end
theorem results_row_tmp {P : Program} {fn : Func} {p u : Tmp} {ty : TypeId} (h : fn.results = #[.cell p ty, .tmp u]) (tmps : Array Value) (w : World) (g : Nat) (t : TypeId) (cs : Array Value) (d : TypeDesc)
    (hp : tmps.getD p undef = .pointer (some ⟨g, 0, none⟩)) (hg : Blk w g t cs)
    (hu : P.underlying ty = some d) (hd : (match d with | .struct _ | .array _ _ => true | _ => false) = true) (hi : (P.info? ty).map (·.size) = some cs.size) :
    (results fn tmps).run P w = .ok (.tuple #[.agg cs, tmps.getD u undef]) w := by
  rw [results_cell_tmp h, hp]
  simp [asAddr, run_loadVar_row w g t ty cs (0, 0) d hg hu hd hi]
theorem only_drewN {a w : World} {row : Option Nat} (h : a.grownBy w row) (n : Nat) : a.grownBy (w.drewN n) row := ⟨h.os, h.tape, h.output, h.size, h.block⟩
theorem only_of_below {a w : World} (h : Below a.heap.size a w) (row : Option Nat) : a.grownBy w row := ⟨h.os, h.tape, h.output, h.size, fun i hi _ => h.block i hi⟩
theorem own_below {w w' : World} {base : Nat} {e : TypeId} {size : Nat} {v : Value} {n : Nat} {xs : List Value} (h : w.ownsRow base e size v n xs) (hb : Below w.heap.size w w') : w'.ownsRow base e size v n xs := by
  refine h.kept (only_of_below hb none) ?_
  rcases h.2 with ⟨rfl, rfl⟩ | ⟨g, cap, cur, rfl, _⟩
  · exact .inl rfl
  · exact .inr (by simp [Value.ownBlock])
theorem below_alloc {a w : World} (h : Below a.heap.size a w) (o : Obj) : Below a.heap.size a (w.alloc o) := h.alloc h.size o
theorem ba2 {w a : World} (h : Below w.heap.size w a) {o o2 : Obj} : Below w.heap.size w ((a.alloc o).alloc o2) := below_alloc (below_alloc h o) o2
theorem ba3 {w a : World} (h : Below w.heap.size w a) {o o2 o3 : Obj} : Below w.heap.size w (((a.alloc o).alloc o2).alloc o3) := below_alloc (below_alloc (below_alloc h o) o2) o3
theorem below1 (w : World) (o : Obj) : Below w.heap.size w (w.alloc o) := below_alloc (Below.refl _ _) o
theorem below2 (w : World) (o o2 : Obj) : Below w.heap.size w ((w.alloc o).alloc o2) := below_alloc (below1 w o) o2
theorem below3 (w : World) (o o2 o3 : Obj) : Below w.heap.size w (((w.alloc o).alloc o2).alloc o3) := below_alloc (below2 w o o2) o3
theorem below_step {w w1 w2 : World} (h : Below w.heap.size w w1) (h2 : Below w1.heap.size w1 w2) : Below w.heap.size w w2 := h.trans (h2.mono h.size)
theorem below_drew {w w1 : World} (h : Below w.heap.size w w1) : Below w.heap.size w w1.drew := h.drew
theorem below_cell {w w1 : World} {a : Addr} {v : Value} (h : Below w.heap.size w w1) (hc : w.cell? a = some v) : w1.cell? a = some v := (h.cell (World.block_lt_of_cell? w a hc)).trans hc
structure L (α : Type) where
  l : List α
  A : Option Addr
  c : Nat
@[reducible] def L.v {α : Type} (x : L α) : Value := .slice x.A x.l.length x.c
def LOk (w : World) (k : Nat) {α : Type} (cells : α → List Value) (x : L α) : Prop :=
  x.l.length ≤ maxLen ∧ (x.l = [] ∨ ∃ g o, x.A = some ⟨g, o, none⟩ ∧ g < w.heap.size ∧ ∀ i (hi : i < x.l.length) j, j < k → w.cell? ⟨g, o + i * k + j, none⟩ = (cells x.l[i])[j]?)
theorem LOk.below {w w' : World} {B k : Nat} {α : Type} {cells : α → List Value} {x : L α} (h : LOk w k cells x) (hb : Below B w w') (hB : w.heap.size ≤ B) : LOk w' k cells x := by
  refine ⟨h.1, ?_⟩
  rcases h.2 with h | ⟨g, o, e, hx, hc⟩
  · exact .inl h
  · exact .inr ⟨g, o, e, Nat.lt_of_lt_of_le hx hb.size, fun i hi j hj => (hb.cell (p := ⟨g, o + i * k + j, none⟩) (Nat.lt_of_lt_of_le hx hB)).trans (hc i hi j hj)⟩
theorem LOk.at {w : World} {k : Nat} {α : Type} {cells : α → List Value} {x : L α} (h : LOk w k cells x) {i : Nat} (hi : i < x.l.length) :
    ∃ g o, x.A = some ⟨g, o, none⟩ ∧ g < w.heap.size ∧ ∀ j, j < k → w.cell? ⟨g, o + i * k + j, none⟩ = (cells x.l[i])[j]? := by
  rcases h.2 with h | ⟨g, o, e, hx, hc⟩
  · rw [h] at hi; simp at hi
  · exact ⟨g, o, e, hx, fun j hj => hc i hi j hj⟩
structure FieldD where
  name : ByteArray
  width : Int
def FieldD.cells (f : FieldD) : List Value := [.string f.name, .int .i64 f.width]
structure HeaderD where
  name : ByteArray
  fields : L FieldD
def HeaderD.cells (h : HeaderD) : List Value := [.string h.name, h.fields.v]
structure RegD where
  name : ByteArray
  width : Int
  size : Int
def RegD.cells (r : RegD) : List Value := [.string r.name, .int .i64 r.width, .int .i64 r.size]
structure NodeD where
  op : Int
  n : Int
  w : Int
def NodeD.cells (x : NodeD) : List Value := [.int .i64 x.op, .int .i64 x.n, .int .i64 x.w]
structure StmtD where
  kind : Int
  dh : Int
  df : Int
  reg : Int
  hdr : Int
  index : L NodeD
  value : L NodeD
def StmtD.cells (s : StmtD) : List Value := [.int .i64 s.kind, .int .i64 s.dh, .int .i64 s.df, .int .i64 s.reg, .int .i64 s.hdr, s.index.v, s.value.v]
structure ActD where
  name : ByteArray
  params : L FieldD
  body : L StmtD
def ActD.cells (a : ActD) : List Value := [.string a.name, a.params.v, a.body.v]
structure KeyD where
  h : Int
  f : Int
  kind : Int
def KeyD.cells (k : KeyD) : List Value := [.int .i64 k.h, .int .i64 k.f, .int .i64 k.kind]
def icell (n : Int) : List Value := [.int .i64 n]
def ucell (n : Int) : List Value := [.int .u32 n]
structure TabD where
  name : ByteArray
  keys : L KeyD
  acts : L Int
  defA : Int
  args : L Int
  size : Int
def TabD.cells (t : TabD) : List Value := [.string t.name, t.keys.v, t.acts.v, .int .i64 t.defA, t.args.v, .int .i64 t.size]
structure CaseD where
  value : Int
  mask : Int
  next : Int
def CaseD.cells (c : CaseD) : List Value := [.int .u32 c.value, .int .u32 c.mask, .int .i64 c.next]
structure StateD where
  name : ByteArray
  extract : L Int
  sel : Bool
  oh : Int
  of : Int
  cases : L CaseD
  dflt : Int
def StateD.cells (s : StateD) : List Value := [.string s.name, s.extract.v, .bool s.sel, .int .i64 s.oh, .int .i64 s.of, s.cases.v, .int .i64 s.dflt]
inductive CtlD where
  | mk (kind table : Int) (cond : L NodeD) (th el : List CtlD) (tA eA : Option Addr) (tc ec : Nat)
def CtlD.kind : CtlD → Int | .mk k _ _ _ _ _ _ _ _ => k
def CtlD.table : CtlD → Int | .mk _ t _ _ _ _ _ _ _ => t
def CtlD.cond : CtlD → L NodeD | .mk _ _ c _ _ _ _ _ _ => c
def CtlD.th : CtlD → L CtlD | .mk _ _ _ t _ A _ c _ => ⟨t, A, c⟩
def CtlD.el : CtlD → L CtlD | .mk _ _ _ _ e _ A _ c => ⟨e, A, c⟩
def CtlD.cells (x : CtlD) : List Value := [.int .i64 x.kind, .int .i64 x.table, x.cond.v, x.th.v, x.el.v]
structure ProgD where
  name : ByteArray
  headers : L HeaderD
  metadata : L FieldD
  registers : L RegD
  actions : L ActD
  tables : L TabD
  states : L StateD
  control : L CtlD
  deparser : L Int
@[reducible] def ProgD.val (p : ProgD) : Value := .agg #[.string p.name, p.headers.v, p.metadata.v, p.registers.v, p.actions.v, p.tables.v, p.states.v, p.control.v, p.deparser.v]
def NameOk (s : ByteArray) : Prop := s.size ≤ maxLen
structure HeaderOk (w : World) (h : HeaderD) : Prop where
  name : NameOk h.name
  fields : LOk w 2 FieldD.cells h.fields
  names : ∀ f ∈ h.fields.l, NameOk f.name
structure StmtOk (w : World) (s : StmtD) : Prop where
  index : LOk w 3 NodeD.cells s.index
  value : LOk w 3 NodeD.cells s.value
structure ActOk (w : World) (a : ActD) : Prop where
  name : NameOk a.name
  params : LOk w 2 FieldD.cells a.params
  pnames : ∀ f ∈ a.params.l, NameOk f.name
  body : LOk w 7 StmtD.cells a.body
  stmts : ∀ s ∈ a.body.l, StmtOk w s
structure TabOk (w : World) (t : TabD) : Prop where
  name : NameOk t.name
  keys : LOk w 3 KeyD.cells t.keys
  acts : LOk w 1 icell t.acts
  args : LOk w 1 ucell t.args
structure StateOk (w : World) (s : StateD) : Prop where
  name : NameOk s.name
  extract : LOk w 1 icell s.extract
  cases : LOk w 3 CaseD.cells s.cases
mutual
def CtlOk (w : World) : CtlD → Prop
  | .mk _ _ cond th el tA eA tc ec => LOk w 3 NodeD.cells cond ∧ LOk w 5 CtlD.cells ⟨th, tA, tc⟩ ∧ LOk w 5 CtlD.cells ⟨el, eA, ec⟩ ∧ CtlsOk w th ∧ CtlsOk w el
def CtlsOk (w : World) : List CtlD → Prop
  | [] => True
  | x :: l => CtlOk w x ∧ CtlsOk w l
end
structure ProgOk (w : World) (p : ProgD) : Prop where
  name : NameOk p.name
  headers : LOk w 2 HeaderD.cells p.headers
  hdr : ∀ h ∈ p.headers.l, HeaderOk w h
  metadata : LOk w 2 FieldD.cells p.metadata
  mnames : ∀ f ∈ p.metadata.l, NameOk f.name
  registers : LOk w 3 RegD.cells p.registers
  rnames : ∀ r ∈ p.registers.l, NameOk r.name
  actions : LOk w 3 ActD.cells p.actions
  act : ∀ a ∈ p.actions.l, ActOk w a
  tables : LOk w 6 TabD.cells p.tables
  tab : ∀ t ∈ p.tables.l, TabOk w t
  states : LOk w 7 StateD.cells p.states
  state : ∀ s ∈ p.states.l, StateOk w s
  control : LOk w 5 CtlD.cells p.control
  ctl : CtlsOk w p.control.l
  deparser : LOk w 1 icell p.deparser
section
variable {w w' : World} (hb : Below w.heap.size w w')
theorem HeaderOk.below {h : HeaderD} (o : HeaderOk w h) (hb : Below w.heap.size w w') : HeaderOk w' h := ⟨o.name, o.fields.below hb (Nat.le_refl _), o.names⟩
theorem StmtOk.below {s : StmtD} (o : StmtOk w s) (hb : Below w.heap.size w w') : StmtOk w' s := ⟨o.index.below hb (Nat.le_refl _), o.value.below hb (Nat.le_refl _)⟩
theorem ActOk.below {a : ActD} (o : ActOk w a) (hb : Below w.heap.size w w') : ActOk w' a :=
  ⟨o.name, o.params.below hb (Nat.le_refl _), o.pnames, o.body.below hb (Nat.le_refl _), fun s hs => (o.stmts s hs).below hb⟩
theorem TabOk.below {t : TabD} (o : TabOk w t) (hb : Below w.heap.size w w') : TabOk w' t :=
  ⟨o.name, o.keys.below hb (Nat.le_refl _), o.acts.below hb (Nat.le_refl _), o.args.below hb (Nat.le_refl _)⟩
theorem StateOk.below {s : StateD} (o : StateOk w s) (hb : Below w.heap.size w w') : StateOk w' s :=
  ⟨o.name, o.extract.below hb (Nat.le_refl _), o.cases.below hb (Nat.le_refl _)⟩
mutual
theorem CtlOk.below {w w' : World} (hb : Below w.heap.size w w') : ∀ {x : CtlD}, CtlOk w x → CtlOk w' x
  | .mk _ _ _ _ _ _ _ _ _, o => by
    rw [CtlOk] at o ⊢
    exact ⟨o.1.below hb (Nat.le_refl _), o.2.1.below hb (Nat.le_refl _), o.2.2.1.below hb (Nat.le_refl _), CtlsOk.below hb o.2.2.2.1, CtlsOk.below hb o.2.2.2.2⟩
theorem CtlsOk.below {w w' : World} (hb : Below w.heap.size w w') : ∀ {l : List CtlD}, CtlsOk w l → CtlsOk w' l
  | [], _ => by rw [CtlsOk]; trivial
  | x :: l, o => by
    rw [CtlsOk] at o ⊢
    exact ⟨CtlOk.below hb o.1, CtlsOk.below hb o.2⟩
end
theorem ProgOk.below {p : ProgD} (o : ProgOk w p) (hb : Below w.heap.size w w') : ProgOk w' p :=
  ⟨o.name, o.headers.below hb (Nat.le_refl _), fun h hh => (o.hdr h hh).below hb, o.metadata.below hb (Nat.le_refl _), o.mnames, o.registers.below hb (Nat.le_refl _), o.rnames,
   o.actions.below hb (Nat.le_refl _), fun a ha => (o.act a ha).below hb, o.tables.below hb (Nat.le_refl _), fun t ht => (o.tab t ht).below hb, o.states.below hb (Nat.le_refl _),
   fun s hs => (o.state s hs).below hb, o.control.below hb (Nat.le_refl _), CtlsOk.below hb o.ctl, o.deparser.below hb (Nat.le_refl _)⟩
end
theorem NodeD.at {w : World} {x : L NodeD} (h : LOk w 3 NodeD.cells x) {i : Nat} (hi : i < x.l.length) :
    ∃ g o, x.A = some ⟨g, o, none⟩ ∧ w.cell? ⟨g, o + i * 3, none⟩ = some (.int .i64 x.l[i].op) ∧ w.cell? ⟨g, o + i * 3 + 1, none⟩ = some (.int .i64 x.l[i].n) ∧ w.cell? ⟨g, o + i * 3 + 2, none⟩ = some (.int .i64 x.l[i].w) := by
  obtain ⟨g, o, e, _, hc⟩ := h.at hi
  exact ⟨g, o, e, hc 0 (by omega), hc 1 (by omega), hc 2 (by omega)⟩
theorem FieldD.at {w : World} {x : L FieldD} (h : LOk w 2 FieldD.cells x) {i : Nat} (hi : i < x.l.length) :
    ∃ g o, x.A = some ⟨g, o, none⟩ ∧ w.cell? ⟨g, o + i * 2, none⟩ = some (.string x.l[i].name) ∧ w.cell? ⟨g, o + i * 2 + 1, none⟩ = some (.int .i64 x.l[i].width) := by
  obtain ⟨g, o, e, _, hc⟩ := h.at hi
  exact ⟨g, o, e, hc 0 (by omega), hc 1 (by omega)⟩
theorem HeaderD.at {w : World} {x : L HeaderD} (h : LOk w 2 HeaderD.cells x) {i : Nat} (hi : i < x.l.length) :
    ∃ g o, x.A = some ⟨g, o, none⟩ ∧ w.cell? ⟨g, o + i * 2, none⟩ = some (.string x.l[i].name) ∧ w.cell? ⟨g, o + i * 2 + 1, none⟩ = some (x.l[i].fields.v) := by
  obtain ⟨g, o, e, _, hc⟩ := h.at hi
  exact ⟨g, o, e, hc 0 (by omega), hc 1 (by omega)⟩
theorem RegD.at {w : World} {x : L RegD} (h : LOk w 3 RegD.cells x) {i : Nat} (hi : i < x.l.length) :
    ∃ g o, x.A = some ⟨g, o, none⟩ ∧ w.cell? ⟨g, o + i * 3, none⟩ = some (.string x.l[i].name) ∧ w.cell? ⟨g, o + i * 3 + 1, none⟩ = some (.int .i64 x.l[i].width) ∧ w.cell? ⟨g, o + i * 3 + 2, none⟩ = some (.int .i64 x.l[i].size) := by
  obtain ⟨g, o, e, _, hc⟩ := h.at hi
  exact ⟨g, o, e, hc 0 (by omega), hc 1 (by omega), hc 2 (by omega)⟩
theorem ActD.at {w : World} {x : L ActD} (h : LOk w 3 ActD.cells x) {i : Nat} (hi : i < x.l.length) :
    ∃ g o, x.A = some ⟨g, o, none⟩ ∧ w.cell? ⟨g, o + i * 3, none⟩ = some (.string x.l[i].name) ∧ w.cell? ⟨g, o + i * 3 + 1, none⟩ = some (x.l[i].params.v) ∧ w.cell? ⟨g, o + i * 3 + 2, none⟩ = some (x.l[i].body.v) := by
  obtain ⟨g, o, e, _, hc⟩ := h.at hi
  exact ⟨g, o, e, hc 0 (by omega), hc 1 (by omega), hc 2 (by omega)⟩
theorem KeyD.at {w : World} {x : L KeyD} (h : LOk w 3 KeyD.cells x) {i : Nat} (hi : i < x.l.length) :
    ∃ g o, x.A = some ⟨g, o, none⟩ ∧ w.cell? ⟨g, o + i * 3, none⟩ = some (.int .i64 x.l[i].h) ∧ w.cell? ⟨g, o + i * 3 + 1, none⟩ = some (.int .i64 x.l[i].f) ∧ w.cell? ⟨g, o + i * 3 + 2, none⟩ = some (.int .i64 x.l[i].kind) := by
  obtain ⟨g, o, e, _, hc⟩ := h.at hi
  exact ⟨g, o, e, hc 0 (by omega), hc 1 (by omega), hc 2 (by omega)⟩
theorem TabD.at {w : World} {x : L TabD} (h : LOk w 6 TabD.cells x) {i : Nat} (hi : i < x.l.length) :
    ∃ g o, x.A = some ⟨g, o, none⟩ ∧ w.cell? ⟨g, o + i * 6, none⟩ = some (.string x.l[i].name) ∧ w.cell? ⟨g, o + i * 6 + 1, none⟩ = some (x.l[i].keys.v) ∧ w.cell? ⟨g, o + i * 6 + 2, none⟩ = some (x.l[i].acts.v) ∧ w.cell? ⟨g, o + i * 6 + 3, none⟩ = some (.int .i64 x.l[i].defA) ∧ w.cell? ⟨g, o + i * 6 + 4, none⟩ = some (x.l[i].args.v) ∧ w.cell? ⟨g, o + i * 6 + 5, none⟩ = some (.int .i64 x.l[i].size) := by
  obtain ⟨g, o, e, _, hc⟩ := h.at hi
  exact ⟨g, o, e, hc 0 (by omega), hc 1 (by omega), hc 2 (by omega), hc 3 (by omega), hc 4 (by omega), hc 5 (by omega)⟩
theorem StateD.at {w : World} {x : L StateD} (h : LOk w 7 StateD.cells x) {i : Nat} (hi : i < x.l.length) :
    ∃ g o, x.A = some ⟨g, o, none⟩ ∧ w.cell? ⟨g, o + i * 7, none⟩ = some (.string x.l[i].name) ∧ w.cell? ⟨g, o + i * 7 + 1, none⟩ = some (x.l[i].extract.v) ∧ w.cell? ⟨g, o + i * 7 + 2, none⟩ = some (.bool x.l[i].sel) ∧ w.cell? ⟨g, o + i * 7 + 3, none⟩ = some (.int .i64 x.l[i].oh) ∧ w.cell? ⟨g, o + i * 7 + 4, none⟩ = some (.int .i64 x.l[i].of) ∧ w.cell? ⟨g, o + i * 7 + 5, none⟩ = some (x.l[i].cases.v) ∧ w.cell? ⟨g, o + i * 7 + 6, none⟩ = some (.int .i64 x.l[i].dflt) := by
  obtain ⟨g, o, e, _, hc⟩ := h.at hi
  exact ⟨g, o, e, hc 0 (by omega), hc 1 (by omega), hc 2 (by omega), hc 3 (by omega), hc 4 (by omega), hc 5 (by omega), hc 6 (by omega)⟩
theorem StmtD.at {w : World} {x : L StmtD} (h : LOk w 7 StmtD.cells x) {i : Nat} (hi : i < x.l.length) :
    ∃ g o, x.A = some ⟨g, o, none⟩ ∧ w.cell? ⟨g, o + i * 7, none⟩ = some (.int .i64 x.l[i].kind) ∧ w.cell? ⟨g, o + i * 7 + 1, none⟩ = some (.int .i64 x.l[i].dh) ∧ w.cell? ⟨g, o + i * 7 + 2, none⟩ = some (.int .i64 x.l[i].df) ∧ w.cell? ⟨g, o + i * 7 + 3, none⟩ = some (.int .i64 x.l[i].reg) ∧ w.cell? ⟨g, o + i * 7 + 4, none⟩ = some (.int .i64 x.l[i].hdr) ∧ w.cell? ⟨g, o + i * 7 + 5, none⟩ = some (x.l[i].index.v) ∧ w.cell? ⟨g, o + i * 7 + 6, none⟩ = some (x.l[i].value.v) := by
  obtain ⟨g, o, e, _, hc⟩ := h.at hi
  exact ⟨g, o, e, hc 0 (by omega), hc 1 (by omega), hc 2 (by omega), hc 3 (by omega), hc 4 (by omega), hc 5 (by omega), hc 6 (by omega)⟩
theorem CtlD.at {w : World} {x : L CtlD} (h : LOk w 5 CtlD.cells x) {i : Nat} (hi : i < x.l.length) :
    ∃ g o, x.A = some ⟨g, o, none⟩ ∧ w.cell? ⟨g, o + i * 5, none⟩ = some (.int .i64 x.l[i].kind) ∧ w.cell? ⟨g, o + i * 5 + 1, none⟩ = some (.int .i64 x.l[i].table) ∧ w.cell? ⟨g, o + i * 5 + 2, none⟩ = some (x.l[i].cond.v) ∧ w.cell? ⟨g, o + i * 5 + 3, none⟩ = some (x.l[i].th.v) ∧ w.cell? ⟨g, o + i * 5 + 4, none⟩ = some (x.l[i].el.v) := by
  obtain ⟨g, o, e, _, hc⟩ := h.at hi
  exact ⟨g, o, e, hc 0 (by omega), hc 1 (by omega), hc 2 (by omega), hc 3 (by omega), hc 4 (by omega)⟩
theorem icell_at {w : World} {x : L Int} (h : LOk w 1 icell x) {i : Nat} (hi : i < x.l.length) : ∃ g o, x.A = some ⟨g, o, none⟩ ∧ w.cell? ⟨g, o + i, none⟩ = some (.int .i64 x.l[i]) := by
  obtain ⟨g, o, e, _, hc⟩ := h.at hi
  exact ⟨g, o, e, by have := hc 0 (by omega); rw [Nat.mul_one] at this; exact this⟩
theorem ucell_at {w : World} {x : L Int} (h : LOk w 1 ucell x) {i : Nat} (hi : i < x.l.length) : ∃ g o, x.A = some ⟨g, o, none⟩ ∧ w.cell? ⟨g, o + i, none⟩ = some (.int .u32 x.l[i]) := by
  obtain ⟨g, o, e, _, hc⟩ := h.at hi
  exact ⟨g, o, e, by have := hc 0 (by omega); rw [Nat.mul_one] at this; exact this⟩
theorem flat_get {α : Type} (cells : α → List Value) (k : Nat) (hk : ∀ u, (cells u).length = k) : ∀ (l : List α) (i : Nat) (hi : i < l.length) (j : Nat), j < k → (l.flatMap cells)[i * k + j]? = (cells l[i])[j]?
  | [], i, hi, _, _ => by simp at hi
  | x :: l, 0, _, j, hj => by
    rw [List.flatMap_cons, List.getElem?_append_left (by rw [hk]; omega), Nat.zero_mul, Nat.zero_add]; rfl
  | x :: l, i + 1, hi, j, hj => by
    rw [List.flatMap_cons, List.getElem?_append_right (by rw [hk, Nat.succ_mul]; omega), hk, Nat.succ_mul, show i * k + k + j - k = i * k + j by omega,
      flat_get cells k hk l i (by simpa using hi) j hj]
    rfl
theorem flat_len {α : Type} (cells : α → List Value) (k : Nat) (hk : ∀ u, (cells u).length = k) : ∀ (l : List α), (l.flatMap cells).length = l.length * k
  | [] => by simp
  | x :: l => by rw [List.flatMap_cons, List.length_append, hk, flat_len cells k hk l, List.length_cons, Nat.succ_mul]; omega
theorem flat_of {α : Type} (cells : α → List Value) (k : Nat) (hk : ∀ u, (cells u).length = k) (l : List α) (m : Nat) (u : Value) (h : (l.flatMap cells)[m]? = some u) : ∃ i, ∃ hi : i < l.length, ∃ j, j < k ∧ m = i * k + j ∧ (cells l[i])[j]? = some u := by
  have hm : m < l.length * k := by rw [← flat_len cells k hk]; exact (List.getElem?_eq_some_iff.1 h).1
  have hk0 : 0 < k := by rcases Nat.eq_zero_or_pos k with h0 | h0; (· rw [h0] at hm; omega); exact h0
  have hi : m / k < l.length := (Nat.div_lt_iff_lt_mul hk0).2 hm
  have hj : m % k < k := Nat.mod_lt _ hk0
  have e : m = m / k * k + m % k := by rw [Nat.mul_comm]; exact (Nat.div_add_mod m k).symm
  refine ⟨m / k, hi, m % k, hj, e, ?_⟩
  rw [← flat_get cells k hk l (m / k) hi (m % k) hj, ← e, h]
theorem wpList_append_L {P : Program} {w : World} {ops : Array Oper} {rest : List Oper} {o : Oper} {a : Act} {Q : Exit → Act → World → Prop} (hgd : o.guard = none) (s x : Operand) (t : TypeId)
    (ho : o.op = .call { callee := .builtin .append, args := #[s, x], argTypes := #[t, t] })
    (base : Nat) (e : TypeId) (i : TypeInfo) (z : Value) (size bytes : Nat) (ht : P.underlying t = some (.slice e)) (hi : P.info? e = some i) (hz : i.zero = some z)
    (hsize : i.size = size) (hby : i.bytes = bytes) (hzs : z.cells.size = size) (hsz : 0 < size)
    (v : Value) (n : Nat) (xs : List Value) (hs : a.eval s = v) (hown : w.ownsRow base e size v n xs)
    {α : Type} {cells : α → List Value} (y : L α) (hx : a.eval x = y.v) (hy : LOk w size cells y) (hnil : y.A = none → y.c = 0) (hk : ∀ u, (cells u).length = size) (h1 : ∀ u, ∀ c ∈ cells u, c.oneCell' = true)
    (h63 : n + y.l.length ≤ maxLen) (hbytes : (n + y.l.length) * bytes ≤ 140737488355328) (hbase : base ≤ w.heap.size)
    (h : ∀ v' w', w'.ownsRow base e size v' (n + y.l.length) (xs ++ y.l.flatMap cells) → w.grownBy w' v.ownBlock → wpList P ops Q rest (a.put o.dst v') w') : wpList P ops Q (o :: rest) a w := by
  obtain ⟨l, A, c⟩ := y
  cases A with
  | none =>
    have hl : l = [] := by
      rcases hy.2 with h0 | ⟨g, o, e, _⟩
      · exact h0
      · cases e
    subst hl
    obtain rfl : c = 0 := hnil rfl
    refine wpList_append_own_none hgd s x t ho base e i size ht hi v n xs hs hown hx (h v w ?_ ⟨rfl, rfl, rfl, Nat.le_refl _, fun _ _ _ => rfl⟩)
    simpa using hown
  | some ad =>
    refine wpList_append_own w hgd s x t ho base e i z size bytes ht hi hz hsize hby hzs hsz v n xs hs hown ad l.length c (l.flatMap cells) hx (flat_len cells size hk l) (fun m u hu => ?_) (fun u hu => ?_) h63 hbytes hbase (fun v' w' h2 h3 _ => h v' w' h2 h3)
    · obtain ⟨i', hi', j, hj, rfl, hc⟩ := flat_of cells size hk l m u hu
      obtain ⟨g, o, e', _, hcc⟩ := hy.at (x := ⟨l, some ad, c⟩) hi'
      simp only [Option.some.injEq] at e'
      rw [e', Addr.add_lit, ← Nat.add_assoc, hcc j hj, hc]
    · obtain ⟨r, _, hr⟩ := List.mem_flatMap.1 hu
      exact h1 r u hr
theorem own_list {w : World} {base : Nat} {e : TypeId} {size : Nat} {v : Value} {α : Type} {cells : α → List Value} {l : List α} (hk : ∀ u, (cells u).length = size) (h : w.ownsRow base e size v l.length (l.flatMap cells)) :
    ∃ A c, v = .slice A l.length c ∧ l.length ≤ c ∧ LOk w size cells ⟨l, A, c⟩ ∧ (A = none → c = 0) ∧ (∀ ad, A = some ad → base ≤ ad.block ∧ ad.off = 0 ∧ ad.spot = none) := by
  have hc := @World.ownsRow.cells w base e size v l.length (l.flatMap cells) h
  rcases h.2 with ⟨rfl, h0⟩ | ⟨g, cap, cur, rfl, hb, hg, hle, hcm, hcs, htk⟩
  · have : l = [] := List.eq_nil_of_length_eq_zero h0
    subst this
    exact ⟨none, 0, rfl, Nat.le_refl _, ⟨Nat.zero_le _, .inl rfl⟩, fun _ => rfl, fun ad e => by cases e⟩
  · refine ⟨some ⟨g, 0, none⟩, cap, rfl, hle, ⟨Nat.le_trans hle hcm, .inr ⟨g, 0, rfl, ?_, fun i hi j hj => ?_⟩⟩, fun e => (by cases e), fun ad e => (by cases e; exact ⟨hb, rfl, rfl⟩)⟩
    · exact (Array.getElem?_eq_some_iff.1 hg).1
    · have hi2 : i * size + j < (l.flatMap cells).length := by
        rw [flat_len cells size hk]
        have : (i + 1) * size ≤ l.length * size := Nat.mul_le_mul_right _ hi
        rw [Nat.add_mul] at this; omega
      have := hc rfl (i * size + j) _ (List.getElem?_eq_getElem hi2)
      rw [Addr.add_lit] at this
      rw [Nat.add_assoc, this, ← flat_get cells size hk l i hi j hj, List.getElem?_eq_getElem hi2]
theorem grown_below {w w' : World} {base : Nat} {e : TypeId} {size : Nat} {v : Value} {n : Nat} {xs : List Value} (h : w.ownsRow base e size v n xs) (hg : w.grownBy w' v.ownBlock) (hb : base ≤ w.heap.size) : Below base w w' := by
  refine (Below.refl base w).grown hg hb (fun k hk => ?_)
  rcases h.2 with ⟨rfl, _⟩ | ⟨g, cap, cur, rfl, hbg, _⟩
  · cases hk
  · simp only [Value.ownBlock, Option.some.injEq] at hk; omega
def isLet (c : Int) : Bool := (decide (97 ≤ c) && decide (c ≤ 122)) || (decide (65 ≤ c) && decide (c ≤ 90))
def isDig (c : Int) : Bool := decide (48 ≤ c) && decide (c ≤ 57)
def isWord (c : Int) : Bool := isLet c || isDig c || c == 95
theorem isLetter_any (c : Int) (w : World) :
    Calls Tryz.prog 192 #[.int .u8 c] w fun e w' => e = .returned (.bool (isLet c)) ∧ w = w' := by
  go_enter Tryz.func192, Tryz.ntmps192
  go_wp2
  all_goals (go_ret; exact ⟨ret_bool (by rw [Bool.eq_iff_iff]; simp [isLet]; omega), rfl⟩)
theorem isDigit_any (c : Int) (w : World) :
    Calls Tryz.prog 195 #[.int .u8 c] w fun e w' => e = .returned (.bool (isDig c)) ∧ w = w' := by
  go_enter Tryz.func195, Tryz.ntmps195
  go_wp2
  all_goals (go_ret; exact ⟨ret_bool (by rw [Bool.eq_iff_iff]; simp [isDig]; omega), rfl⟩)
set_option maxHeartbeats 400000 in
theorem rletter_any (c : Int) (w : World) :
    Calls Tryz.prog 141 #[.int .u8 c] w fun e w' => e = .returned (.bool (isLet c)) ∧ w = w' := by
  go_enter Tryz.func141, Tryz.ntmps141
  go_wp2
  all_goals (go_ret; exact ⟨ret_bool (by rw [Bool.eq_iff_iff]; simp [isLet]; omega), rfl⟩)
theorem word1_any (c : Int) (w : World) :
    Calls Tryz.prog 194 #[.int .u8 c] w fun e w' => e = .returned (.bool (isWord c)) ∧ w = w' := by
  go_enter Tryz.func194, Tryz.ntmps194
  go_wp2_with (first
    | (go_at_call 192; refine (isLetter_any _ _).mono ?_; rintro e w' ⟨rfl, rfl⟩)
    | (go_at_call 195; refine (isDigit_any _ _).mono ?_; rintro e w' ⟨rfl, rfl⟩))
  all_goals (go_ret; exact ⟨ret_bool (by rw [Bool.eq_iff_iff]; simp [isWord, *]), rfl⟩)
def ext (p : Int → Bool) : List UInt8 → Nat
  | [] => 0
  | c :: l => if p c.toNat then ext p l + 1 else 0
theorem ext_le (p : Int → Bool) : ∀ l, ext p l ≤ l.length
  | [] => Nat.le_refl _
  | c :: l => by unfold ext; split <;> simp; exact ext_le p l
theorem ext_all (p : Int → Bool) : ∀ l (i : Nat) (h : i < ext p l), p ((l[i]'(Nat.lt_of_lt_of_le h (ext_le p l))).toNat : Nat) = true
  | [], i, h => absurd h (Nat.not_lt_zero _)
  | c :: l, i, h => by
    unfold ext at h
    split at h
    · rename_i hc
      cases i with
      | zero => simpa using hc
      | succ i => simpa using ext_all p l i (by omega)
    · omega
theorem ext_stop (p : Int → Bool) : ∀ l (h : ext p l < l.length), p ((l[ext p l]'h).toNat : Nat) = false
  | [], h => absurd h (Nat.not_lt_zero _)
  | c :: l, h => by
    by_cases hc : p c.toNat = true
    · have e : ext p (c :: l) = ext p l + 1 := by rw [ext, if_pos hc]
      have h' : ext p l < l.length := by rw [e] at h; simpa using h
      have := ext_stop p l h'
      simp only [e]
      simpa using this
    · have e : ext p (c :: l) = 0 := by rw [ext, if_neg hc]
      simp only [e]
      simpa using hc
theorem extent_any (F : FuncId) (p : Int → Bool) (s : ByteArray) (w : World) (hs : s.size ≤ maxLen)
    (hcf : ∀ (c : Int) (W : World), (callFunc F #[.int .u8 c]).run Tryz.prog W = .ok (.enter F #[.int .u8 c]) W)
    (hF : Hid (∀ (c : Int) (W : World), Calls Tryz.prog F #[.int .u8 c] W fun e w' => e = .returned (.bool (p c)) ∧ W = w')) :
    Calls Tryz.prog 193 #[.string s, .func (.func F) #[] #[]] w fun e w' => e = .returned (.int .i64 (ext p s.data.toList)) ∧ w = w' := by
  unfold maxLen at hs
  go_enter Tryz.func193, Tryz.ntmps193
  go_wp2
  go_loop [5] (fun i => ∃ k : Nat, k ≤ ext p s.data.toList ∧ i = .int .i64 k) (fun i => s.size - (intOf i).toNat)
  case atStart => exact ⟨0, Nat.zero_le _, rfl⟩
  case round =>
    obtain ⟨k, hk, rfl⟩ := hrel
    have hle : ext p s.data.toList ≤ s.size := ext_le p s.data.toList
    by_cases hlt : k < s.size
    · have H1 := hi_ (ext_stop p s.data.toList)
      have H2 := hi_ (ext_all p s.data.toList)
      by_cases hb : p ((s[k]).toNat : Nat) = true
      all_goals
        have HB := hi_ hb
        clear hb
        go_wp2_with fail
        refine (hF.out _ _).mono ?_
        rintro e w' ⟨rfl, rfl⟩
        have hb := HB.out
        go_wp2
      · go_round
        case rel =>
          refine ⟨k + 1, ?_, by go_num⟩
          rcases Nat.lt_or_ge k (ext p s.data.toList) with h | h
          · exact h
          · exfalso
            have e : ext p s.data.toList = k := by omega
            have := H1.out (by rw [e]; exact hlt)
            simp only [e] at this
            have hb' := HB.out
            rw [show (s[k] : UInt8) = s.data.toList[k]'hlt from rfl] at hb'
            rw [this] at hb'
            cases hb'
        case measure => simp [intOf]; omega
      · go_ret
        refine ⟨ret_int ?_, rfl⟩
        rcases Nat.lt_or_ge k (ext p s.data.toList) with h | h
        · exact absurd (H2.out k h) HB.out
        · omega
    · go_wp2
      go_ret
      exact ⟨ret_int (by omega), rfl⟩
theorem list_one (s : ByteArray) (h0 : 0 < s.size) : s.data.toList = s[0] :: s.data.toList.drop 1 := by
  have := List.drop_eq_getElem_cons (l := s.data.toList) (i := 0) h0
  rw [List.drop_zero] at this
  exact this
def identM (l : List UInt8) : Bool := match l with
  | [] => false
  | c :: _ => decide (l.length ≤ 16) && isLet c.toNat && decide (ext isWord l = l.length)
theorem identM_head (s : ByteArray) (h0 : 0 < s.size) : identM s.data.toList = (decide (s.size ≤ 16) && isLet s[0].toNat && decide (ext isWord s.data.toList = s.size)) := by
  have e : s.size = s.data.toList.length := rfl
  rw [e]
  generalize hl : s.data.toList = l
  rw [list_one s h0] at hl
  subst hl
  rfl
theorem ext_id (s : ByteArray) (w : World) (hs : s.size ≤ maxLen) :
    Calls Tryz.prog 193 #[.string s, .func (.func 194) #[] #[]] w fun e w' => e = .returned (.int .i64 (ext isWord s.data.toList)) ∧ w = w' :=
  extent_any _ isWord s w hs (fun _ _ => by kernel_rfl) (hi_ word1_any)
theorem isIdent_any (s : ByteArray) (w : World) (hs : s.size ≤ maxLen) :
    Calls Tryz.prog 165 #[.string s] w fun e w' => e = .returned (.bool (identM s.data.toList)) ∧ w = w' := by
  have HS := hi_ hs
  unfold maxLen at hs
  rcases Nat.eq_zero_or_pos s.size with hz | h0
  · have hz' : s.data.toList = [] := List.eq_nil_of_length_eq_zero hz
    have HZ := hi_ hz'
    have h1 : ((s.size : Int) == 0) = true := by rw [beq_iff_eq]; omega
    clear hz hz'
    go_enter Tryz.func165, Tryz.ntmps165
    go_wp2
    go_ret
    exact ⟨by rw [HZ.out]; rfl, rfl⟩
  · have h1 : ((s.size : Int) == 0) = false := by rw [beq_eq_false_iff_ne]; omega
    have HI := hi_ (identM_head s h0)
    by_cases h16 : 16 < s.size
    · go_enter Tryz.func165, Tryz.ntmps165
      go_wp2
      go_ret
      exact ⟨by rw [HI.out, show decide (s.size ≤ 16) = false from by simp; omega]; rfl, rfl⟩
    · have H16 : Hid (decide (s.size ≤ 16) = true) := hi_ (by simp; omega)
      rcases hl : isLet (s[0].toNat : Int) with _ | _
      · have HL := hi_ hl
        clear hl
        go_enter Tryz.func165, Tryz.ntmps165
        go_wp2_with fail
        refine (isLetter_any _ _).mono ?_
        rintro e w' ⟨rfl, rfl⟩
        have hl := HL.out
        go_wp2
        go_ret
        exact ⟨by rw [HI.out, H16.out, HL.out]; rfl, rfl⟩
      · have HL := hi_ hl
        clear hl
        go_enter Tryz.func165, Tryz.ntmps165
        go_wp2_with fail
        refine (isLetter_any _ _).mono ?_
        rintro e w' ⟨rfl, rfl⟩
        have hl := HL.out
        go_wp2_with fail
        refine (ext_id s _ HS.out).mono ?_
        rintro e w' ⟨rfl, rfl⟩
        go_wp2
        go_ret
        refine ⟨ret_bool ?_, rfl⟩
        rw [HI.out, H16.out, HL.out]
        show ((ext isWord s.data.toList : Int) == (s.size : Int)) = decide (ext isWord s.data.toList = s.size)
        rw [Bool.eq_iff_iff, beq_iff_eq, decide_eq_true_iff]; omega
theorem require_ok (p i s : Int) (w : World) :
    Calls Tryz.prog 116 #[.int .i64 0, .int .i64 p, .int .i64 i, .int .i64 s] w fun e w' => e = .returned (.tuple #[]) ∧ w = w' := by
  go_enter Tryz.func116, Tryz.ntmps116
  go_wp2
  go_end0
  exact ⟨rfl, rfl⟩
theorem require_bad (c p i s : Int) (w : World) (h : (c == 0) = false) :
    Calls Tryz.prog 116 #[.int .i64 c, .int .i64 p, .int .i64 i, .int .i64 s] w fun e w' =>
      e = .panicked [{ v := .iface 137 (.agg #[.int .i64 c, .int .i64 p, .int .i64 i, .int .i64 s]), recovered := false }] ∧ w = w' := by
  go_enter Tryz.func116, Tryz.ntmps116
  go_wp2
  exact ⟨rfl, rfl, rfl⟩
theorem when_any (b : Bool) (c : Int) (w : World) :
    Calls Tryz.prog 117 #[.bool b, .int .i64 c] w fun e w' => e = .returned (.int .i64 (if b = true then c else 0)) ∧ w = w' := by
  cases b
  · go_enter Tryz.func117, Tryz.ntmps117
    go_wp2
    go_ret
    exact ⟨rfl, rfl⟩
  · go_enter Tryz.func117, Tryz.ntmps117
    go_wp2
    go_ret
    exact ⟨rfl, rfl⟩
def ident (s : ByteArray) : Bool := identM s.data.toList
theorem identifier_any (s : ByteArray) (w : World) (hs : s.size ≤ maxLen) :
    Calls Tryz.prog 118 #[.string s] w fun e w' => e = .returned (.bool (!ident s)) ∧ w = w' := by
  go_enter Tryz.func118, Tryz.ntmps118
  go_wp2_with fail
  refine (isIdent_any s _ hs).mono ?_
  rintro e w1 ⟨rfl, rfl⟩
  go_wp2
  go_ret
  exact ⟨rfl, rfl⟩
theorem widthInvalid_any (n : Int) (w : World) :
    Calls Tryz.prog 125 #[.int .i64 n] w fun e w' => e = .returned (.bool (decide (n < 1) || decide (32 < n))) ∧ w = w' := by
  by_cases h : n < 1
  · have H := hi_ h
    go_enter Tryz.func125, Tryz.ntmps125
    go_wp2
    go_ret
    exact ⟨by rw [decide_eq_true H.out]; rfl, rfl⟩
  · have H := hi_ h
    go_enter Tryz.func125, Tryz.ntmps125
    go_wp2
    go_ret
    exact ⟨by rw [decide_eq_false (show ¬ n < 1 by have := H.out; omega)]; rfl, rfl⟩
theorem fieldName_any (f : FieldD) (w : World) :
    Calls Tryz.prog 124 #[.agg #[.string f.name, .int .i64 f.width]] w fun e w' => e = .returned (.string f.name) ∧ Below w.heap.size w w' := by
  go_enter Tryz.func124, Tryz.ntmps124
  go_wp2
  go_ret
  exact ⟨rfl, (Below.refl _ _).alloc (Nat.le_refl _) _⟩
theorem actionName_any (f : ActD) (w : World) :
    Calls Tryz.prog 130 #[.agg #[.string f.name, f.params.v, f.body.v]] w fun e w' => e = .returned (.string f.name) ∧ Below w.heap.size w w' := by
  go_enter Tryz.func130, Tryz.ntmps130
  go_wp2
  go_ret
  exact ⟨rfl, (Below.refl _ _).alloc (Nat.le_refl _) _⟩
theorem tableName_any (t : TabD) (w : World) :
    Calls Tryz.prog 133 #[.agg #[.string t.name, t.keys.v, t.acts.v, .int .i64 t.defA, t.args.v, .int .i64 t.size]] w fun e w' => e = .returned (.string t.name) ∧ Below w.heap.size w w' := by
  go_enter Tryz.func133, Tryz.ntmps133
  go_wp2
  go_ret
  exact ⟨rfl, (Below.refl _ _).alloc (Nat.le_refl _) _⟩
theorem headerName_any (f : HeaderD) (w : World) :
    Calls Tryz.prog 120 #[.agg #[.string f.name, f.fields.v]] w fun e w' => e = .returned (.string f.name) ∧ Below w.heap.size w w' := by
  go_enter Tryz.func120, Tryz.ntmps120
  go_wp2
  go_ret
  exact ⟨rfl, (Below.refl _ _).alloc (Nat.le_refl _) _⟩
theorem registerName_any (f : RegD) (w : World) :
    Calls Tryz.prog 127 #[.agg #[.string f.name, .int .i64 f.width, .int .i64 f.size]] w fun e w' => e = .returned (.string f.name) ∧ Below w.heap.size w w' := by
  go_enter Tryz.func127, Tryz.ntmps127
  go_wp2
  go_ret
  exact ⟨rfl, (Below.refl _ _).alloc (Nat.le_refl _) _⟩
def okW (n : Int) : Bool := decide (1 ≤ n) && decide (n ≤ 32)
theorem valid1_any (g c : Nat) (n : Int) (w : World) (h : w.cell? ⟨g, 0, none⟩ = some (.int .i64 n)) :
    Calls Tryz.prog 164 #[.slice (some ⟨g, 0, none⟩) 1 c] w fun e w' => e = .returned (.bool (okW n)) ∧ w = w' := by
  have hcase : (okW n = true ∧ ¬ n < 1 ∧ ¬ 32 < n) ∨ (okW n = false ∧ n < 1) ∨ (okW n = false ∧ ¬ n < 1 ∧ 32 < n) := by
    unfold okW
    rcases Int.lt_or_le n 1 with h1 | h1
    · exact .inr (.inl ⟨by simp; omega, h1⟩)
    · rcases Int.lt_or_le 32 n with h2 | h2
      · exact .inr (.inr ⟨by simp; omega, by omega, h2⟩)
      · exact .inl ⟨by simp; omega, by omega, by omega⟩
  rcases hcase with ⟨hv, h1, h2⟩ | ⟨hv, h1⟩ | ⟨hv, h1, h2⟩
  all_goals
    have HV := hi_ hv
    clear hv
    go_enter Tryz.func164, Tryz.ntmps164
    go_wp2
    go_loop [4, 7] (fun _ iv => ∃ k : Nat, k ≤ 1 ∧ iv = .int .i64 k ∧ (k = 1 → okW n = true)) (fun _ i => 1 - (intOf i).toNat)
    case atStart => exact ⟨0, by omega, rfl, fun h => by omega⟩
    case round =>
      obtain ⟨k, hk, rfl, hk1⟩ := hrel
      rcases (show k = 0 ∨ k = 1 by omega) with rfl | rfl
      · clear hk1
        go_wp2
        first
          | (go_round
             case rel => exact ⟨1, by omega, by go_num, fun _ => HV.out⟩
             case measure => simp [intOf])
          | (go_ret; exact ⟨by rw [HV.out]; rfl, rfl⟩)
      · have HK := hi_ (hk1 rfl)
        clear hk1
        go_wp2
        go_ret
        exact ⟨by rw [HK.out]; rfl, rfl⟩
def maskM (n : Int) : Nat := if okW n = true then 2 ^ n.toNat - 1 else 0
theorem maskM_shift (n : Int) (h1 : 1 ≤ n) (h2 : n ≤ 32) : (4294967295 : Int) / 2 ^ (32 - n).toNat = (maskM n : Int) := by
  obtain ⟨m, rfl, hm⟩ : ∃ m : Nat, n = m ∧ m ≤ 32 := ⟨n.toNat, by omega, by omega⟩
  have h : ∀ m : Fin 33, 1 ≤ m.1 → (4294967295 : Int) / 2 ^ (32 - (m.1 : Int)).toNat = (maskM m.1 : Int) := by decide +kernel
  exact h ⟨m, by omega⟩ (by show 1 ≤ m; omega)
theorem mask_any (n : Int) (w : World) :
    Calls Tryz.prog 110 #[.int .i64 n] w fun e w' => e = .returned (.int .u32 (maskM n)) ∧ Below w.heap.size w w' := by
  have hb : Below w.heap.size w (w.alloc (.cells #[.int .i64 n] 3)) := (Below.refl _ _).alloc (Nat.le_refl _) _
  cases hv : okW n
  · have HM := hi_ (show maskM n = 0 by rw [maskM, hv]; rfl)
    have HV := hi_ hv
    clear hv
    go_enter Tryz.func110, Tryz.ntmps110
    go_wp2_with fail
    refine (valid1_any w.heap.size 1 n _ (by simp)).mono ?_
    rintro e w1 ⟨rfl, rfl⟩
    rw [HV.out]
    go_wp2
    go_ret
    exact ⟨by rw [HM.out]; rfl, hb⟩
  · have HV := hi_ hv
    have hr : 1 ≤ n ∧ n ≤ 32 := by simpa [okW] using hv
    have h1 := hr.1
    have h2 := hr.2
    have HM := hi_ (maskM_shift n hr.1 hr.2)
    clear hv hr
    go_enter Tryz.func110, Tryz.ntmps110
    go_wp2_with fail
    refine (valid1_any w.heap.size 1 n _ (by simp)).mono ?_
    rintro e w1 ⟨rfl, rfl⟩
    rw [HV.out]
    go_wp2
    go_ret
    exact ⟨by rw [← HM.out]; rfl, hb⟩
def fitsM (v n : Int) : Bool := okW n && decide (v ≤ maskM n)
theorem fits_any (v n : Int) (w : World) :
    Calls Tryz.prog 212 #[.int .u32 v, .int .i64 n] w fun e w' => e = .returned (.bool (fitsM v n)) ∧ Below w.heap.size w w' := by
  have hb : Below w.heap.size w (w.alloc (.cells #[.int .i64 n] 3)) := (Below.refl _ _).alloc (Nat.le_refl _) _
  cases hv : okW n
  · have HV := hi_ hv
    clear hv
    go_enter Tryz.func212, Tryz.ntmps212
    go_wp2_with fail
    refine (valid1_any w.heap.size 1 n _ (by simp)).mono ?_
    rintro e w1 ⟨rfl, rfl⟩
    rw [HV.out]
    go_wp2
    go_ret
    exact ⟨by rw [fitsM, HV.out]; rfl, hb⟩
  · have HV := hi_ hv
    clear hv
    go_enter Tryz.func212, Tryz.ntmps212
    go_wp2_with fail
    refine (valid1_any w.heap.size 1 n _ (by simp)).mono ?_
    rintro e w1 ⟨rfl, rfl⟩
    rw [HV.out]
    go_wp2_with fail
    refine (mask_any n _).mono ?_
    rintro e w2 ⟨rfl, hb2⟩
    go_wp2
    go_ret
    exact ⟨by rw [fitsM, HV.out]; rfl, hb.trans (hb2.mono hb.size)⟩
def noField : FieldD := ⟨⟨#[]⟩, 0⟩
def noHeader : HeaderD := ⟨⟨#[]⟩, ⟨[], none, 0⟩⟩
def fieldAt (x : L FieldD) (i : Int) : FieldD := if i < 0 then noField else (x.l[i.toNat]?).getD noField
def headerAt (x : L HeaderD) (i : Int) : HeaderD := if i < 0 then noHeader else (x.l[i.toNat]?).getD noHeader
theorem atField_any (x : L FieldD) (i : Int) (w : World) (h : LOk w 2 FieldD.cells x) :
    Calls Tryz.prog 139 #[x.v, .int .i64 i] w fun e w' =>
      e = .returned (.agg #[.string (fieldAt x i).name, .int .i64 (fieldAt x i).width]) ∧ Below w.heap.size w w' := by
  obtain ⟨l, A0, c0⟩ := x
  have HX := hi_ h
  clear h
  simp only [L.v] at *
  have hca := @World.cell?_alloc_some
  by_cases h1 : i < 0
  · have HR := hi_ (show fieldAt ⟨l, A0, c0⟩ i = noField by rw [fieldAt, if_pos h1])
    go_enter Tryz.func139, Tryz.ntmps139
    go_wp2
    refine bodyPost_ret (v := .agg #[.string noField.name, .int .i64 noField.width]) (by simp [results, Tryz.results139, go_sem, noField]) rfl ⟨by rw [HR.out], below2 _ _ _⟩
  · obtain ⟨k, rfl⟩ : ∃ k : Nat, i = k := ⟨i.toNat, by omega⟩
    by_cases h2 : k < l.length
    · obtain ⟨g, o, rfl, d0, d1⟩ := FieldD.at HX.out h2
      simp only at d0 d1
      have HR := hi_ (show fieldAt ⟨l, some ⟨g, o, none⟩, c0⟩ k = l[k] by rw [fieldAt, if_neg h1]; simp [h2])
      generalize l[k] = y at *
      go_enter Tryz.func139, Tryz.ntmps139
      go_wp2
      refine bodyPost_ret (v := .agg #[.string y.name, .int .i64 y.width]) (by simp [results, Tryz.results139, go_sem]) rfl ⟨by rw [HR.out], below2 _ _ _⟩
    · have HR := hi_ (show fieldAt ⟨l, A0, c0⟩ k = noField by rw [fieldAt, if_neg h1]; simp [List.getElem?_eq_none (Nat.le_of_not_lt h2)])
      go_enter Tryz.func139, Tryz.ntmps139
      go_wp2
      refine bodyPost_ret (v := .agg #[.string noField.name, .int .i64 noField.width]) (by simp [results, Tryz.results139, go_sem, noField]) rfl ⟨by rw [HR.out], below2 _ _ _⟩
theorem atHeader_any (x : L HeaderD) (i : Int) (w : World) (h : LOk w 2 HeaderD.cells x) :
    Calls Tryz.prog 182 #[x.v, .int .i64 i] w fun e w' =>
      e = .returned (.agg #[.string (headerAt x i).name, (headerAt x i).fields.v]) ∧ Below w.heap.size w w' := by
  obtain ⟨l, A0, c0⟩ := x
  have HX := hi_ h
  clear h
  simp only [L.v] at *
  have hca := @World.cell?_alloc_some
  by_cases h1 : i < 0
  · have HR := hi_ (show headerAt ⟨l, A0, c0⟩ i = noHeader by rw [headerAt, if_pos h1])
    go_enter Tryz.func182, Tryz.ntmps182
    go_wp2
    refine bodyPost_ret (v := .agg #[.string noHeader.name, noHeader.fields.v]) (by simp [results, Tryz.results182, go_sem, noHeader]) rfl ⟨by rw [HR.out], below2 _ _ _⟩
  · obtain ⟨k, rfl⟩ : ∃ k : Nat, i = k := ⟨i.toNat, by omega⟩
    by_cases h2 : k < l.length
    · obtain ⟨g, o, rfl, d0, d1⟩ := HeaderD.at HX.out h2
      simp only at d0 d1
      have HR := hi_ (show headerAt ⟨l, some ⟨g, o, none⟩, c0⟩ k = l[k] by rw [headerAt, if_neg h1]; simp [h2])
      generalize l[k] = y at *
      obtain ⟨nm, ⟨fl, fA, fc⟩⟩ := y
      simp only [L.v] at d1
      go_enter Tryz.func182, Tryz.ntmps182
      go_wp2
      refine bodyPost_ret (v := .agg #[.string nm, .slice fA fl.length fc]) (by simp [results, Tryz.results182, go_sem]) rfl ⟨by rw [HR.out], below2 _ _ _⟩
    · have HR := hi_ (show headerAt ⟨l, A0, c0⟩ k = noHeader by rw [headerAt, if_neg h1]; simp [List.getElem?_eq_none (Nat.le_of_not_lt h2)])
      go_enter Tryz.func182, Tryz.ntmps182
      go_wp2
      refine bodyPost_ret (v := .agg #[.string noHeader.name, noHeader.fields.v]) (by simp [results, Tryz.results182, go_sem, noHeader]) rfl ⟨by rw [HR.out], below2 _ _ _⟩
def fieldsM (p : ProgD) (h : Int) : L FieldD := if h = -1 then p.metadata else (headerAt p.headers h).fields
theorem fieldsM_ok {w : World} {p : ProgD} (o : ProgOk w p) (h : Int) : LOk w 2 FieldD.cells (fieldsM p h) := by
  unfold fieldsM
  split
  · exact o.metadata
  · unfold headerAt
    split
    · exact ⟨Nat.zero_le _, .inl rfl⟩
    · rcases hk : p.headers.l[h.toNat]? with _ | y
      · exact ⟨Nat.zero_le _, .inl rfl⟩
      · exact (o.hdr y (List.mem_of_getElem? hk)).fields
def widthAt (p : ProgD) (h f : Int) : Int := if okW (fieldAt (fieldsM p h) f).width = true then (fieldAt (fieldsM p h) f).width else 0
theorem mask_zero (n : Int) : ((maskM n : Int) == 0) = !okW n := by
  unfold maskM
  cases hv : okW n
  · rfl
  · have hr : 1 ≤ n ∧ n ≤ 32 := by simpa [okW] using hv
    have h2 : 2 ^ 1 ≤ 2 ^ n.toNat := Nat.pow_le_pow_right (by omega) (by omega)
    simp only [if_true, Bool.not_true, beq_eq_false_iff_ne]
    omega
theorem hdr_field (s : ByteArray) (A : Option Addr) (n c : Nat) (w : World) : (Instr.field 96 (.agg #[.string s, .slice A n c]) 1).run Tryz.prog w = .ok (.slice A n c) w := by kernel_rfl
theorem fld_field (s : ByteArray) (n : Int) (w : World) : (Instr.field 135 (.agg #[.string s, .int .i64 n]) 1).run Tryz.prog w = .ok (.int .i64 n) w := by kernel_rfl
theorem fields_any (p : ProgD) (h : Int) (w : World) (o : ProgOk w p) :
    Calls Tryz.prog 140 #[p.val, .int .i64 h] w fun e w' => e = .returned (fieldsM p h).v ∧ Below w.heap.size w w' := by
  have HO := hi_ o
  have hb : Below w.heap.size w (w.alloc (.cells #[.string p.name, p.headers.v, p.metadata.v, p.registers.v, p.actions.v, p.tables.v, p.states.v, p.control.v, p.deparser.v] 31)) := (Below.refl _ _).alloc (Nat.le_refl _) _
  have HB := hi_ hb
  clear o hb
  by_cases h1 : h = -1
  · have HR := hi_ (show fieldsM p h = p.metadata by rw [fieldsM, if_pos h1])
    subst h1
    simp only [ProgD.val, L.v]
    go_enter Tryz.func140, Tryz.ntmps140
    go_wp2
    go_ret
    exact ⟨by rw [HR.out]; rfl, HB.out⟩
  · have HR := hi_ (show fieldsM p h = (headerAt p.headers h).fields by rw [fieldsM, if_neg h1])
    have h1' : (h == -1) = false := beq_eq_false_iff_ne.2 h1
    simp only [ProgD.val, L.v]
    go_enter Tryz.func140, Tryz.ntmps140
    go_wp2_with fail
    refine (atHeader_any p.headers h _ (HO.out.headers.below HB.out (Nat.le_refl _))).mono ?_
    rintro e w1 ⟨rfl, hb1⟩
    have hfd := hdr_field
    have HR2 := hi_ (show (fieldsM p h).v = (headerAt p.headers h).fields.v by rw [HR.out])
    clear HR
    generalize headerAt p.headers h = y at *
    obtain ⟨nm, ⟨fl, fA, fc⟩⟩ := y
    simp only [L.v] at *
    go_wp2
    go_ret
    exact ⟨by rw [HR2.out]; rfl, HB.out.trans (hb1.mono HB.out.size)⟩
theorem width_any (p : ProgD) (h f : Int) (w : World) (o : ProgOk w p) :
    Calls Tryz.prog 91 #[p.val, .agg #[.int .i64 h, .int .i64 f]] w fun e w' => e = .returned (.int .i64 (widthAt p h f)) ∧ Below w.heap.size w w' := by
  have HO := hi_ o
  obtain ⟨W, hW⟩ : ∃ W, W = (w.alloc (.cells #[.string p.name, p.headers.v, p.metadata.v, p.registers.v, p.actions.v, p.tables.v, p.states.v, p.control.v, p.deparser.v] 31)).alloc (.cells #[.int .i64 h, .int .i64 f] 98) := ⟨_, rfl⟩
  have HB : Hid (Below w.heap.size w W) := hi_ (by rw [hW]; exact below2 _ _ _)
  have hp : ∀ w', Below W.heap.size W w' → (w'.cell? ⟨w.heap.size, 0, none⟩ = some (.string p.name) ∧ w'.cell? ⟨w.heap.size, 1, none⟩ = some p.headers.v ∧ w'.cell? ⟨w.heap.size, 2, none⟩ = some p.metadata.v ∧
      w'.cell? ⟨w.heap.size, 3, none⟩ = some p.registers.v ∧ w'.cell? ⟨w.heap.size, 4, none⟩ = some p.actions.v ∧ w'.cell? ⟨w.heap.size, 5, none⟩ = some p.tables.v ∧ w'.cell? ⟨w.heap.size, 6, none⟩ = some p.states.v ∧
      w'.cell? ⟨w.heap.size, 7, none⟩ = some p.control.v ∧ w'.cell? ⟨w.heap.size, 8, none⟩ = some p.deparser.v) ∧
      w'.cell? ⟨w.heap.size + 1, 0, none⟩ = some (.int .i64 h) ∧ w'.cell? ⟨w.heap.size + 1, 1, none⟩ = some (.int .i64 f) := by
    intro w' hb
    subst hW
    refine ⟨⟨?_, ?_, ?_, ?_, ?_, ?_, ?_, ?_, ?_⟩, ?_, ?_⟩ <;> exact below_cell hb (by simp [L.v])
  have hfd := fld_field
  have H0 := hi_ (Below.refl W.heap.size W)
  clear o
  simp only [ProgD.val, L.v] at *
  go_enter Tryz.func91, Tryz.ntmps91
  go_wp2
  rw [← hW]
  clear hW
  go_region_held3 (fun w' => Below W.heap.size W w') (first | exact H0.out | exact below_drew H0.out | (exact below_step (by assumption) (by assumption)))
    (first | (go_at_call 140; refine (fields_any p h _ (HO.out.below (below_step HB.out (by assumption)))).mono ?_; rintro e w1 ⟨rfl, hb1⟩) | (go_at_call 139; refine (atField_any (fieldsM p h) f _ ((fieldsM_ok HO.out h).below (below_step HB.out (by assumption)) (Nat.le_refl _))).mono ?_; rintro e w1 ⟨rfl, hb1⟩))
  have HB2 : Hid (Below w.heap.size w _) := hi_ (below_step HB.out (by assumption))
  clear hp
  have HR : Hid (widthAt p h f = if okW (fieldAt (fieldsM p h) f).width = true then (fieldAt (fieldsM p h) f).width else 0) := hi_ rfl
  generalize (fieldAt (fieldsM p h) f).width = n at *
  have hz := mask_zero n
  go_wp2_with fail
  refine (mask_any n _).mono ?_
  rintro e w3 ⟨rfl, hb3⟩
  have HB3 := hi_ (below_step HB2.out hb3)
  clear hb3
  cases hv : okW n
  · rw [hv] at hz
    have HR2 := hi_ (show widthAt p h f = 0 by rw [HR.out, hv]; rfl)
    go_wp2
    go_ret
    exact ⟨by rw [HR2.out]; rfl, HB3.out⟩
  · rw [hv] at hz
    have HR2 := hi_ (show widthAt p h f = n by rw [HR.out, hv]; rfl)
    go_wp2
    go_ret
    exact ⟨by rw [HR2.out]; rfl, HB3.out⟩
def firstE {α : Type} : Nat → (Nat → Option α) → Option α
  | 0, _ => none
  | n + 1, f => match firstE n f with
    | some r => some r
    | none => f n
theorem firstE_none {α : Type} {f : Nat → Option α} : ∀ {n : Nat}, (∀ j, j < n → f j = none) → firstE n f = none
  | 0, _ => rfl
  | n + 1, h => by rw [firstE, firstE_none (fun j hj => h j (by omega))]; exact h n (by omega)
theorem firstE_some {α : Type} {f : Nat → Option α} {r : α} {i : Nat} : ∀ {n : Nat}, i < n → (∀ j, j < i → f j = none) → f i = some r → firstE n f = some r
  | n + 1, hi, h, hr => by
    rw [firstE]
    by_cases hin : i < n
    · rw [firstE_some hin h hr]
    · have e : i = n := by omega
      subst e
      rw [firstE_none h]; exact hr
theorem firstE_inv {α : Type} {f : Nat → Option α} : ∀ {n : Nat}, firstE n f = none → ∀ j, j < n → f j = none
  | 0, _, j, hj => by omega
  | n + 1, h, j, hj => by
    rw [firstE] at h
    rcases hf : firstE n f with _ | r
    · rw [hf] at h
      by_cases e : j < n
      · exact firstE_inv hf j e
      · have : j = n := by omega
        subst this; exact h
    · rw [hf] at h; cases h
def dupB (l : List ByteArray) (i : Nat) : Bool := Lib.containsS (l.take i) (l.getD i ByteArray.empty)
theorem dupB_iff {l : List ByteArray} {i : Nat} (hi : i < l.length) : dupB l i = true ↔ ∃ k, ∃ h : k < l.length, k < i ∧ l[k] = l[i] := by
  have e : l.getD i ByteArray.empty = l[i] := by simp [hi]
  rw [dupB, Lib.containsS_iff, e, List.mem_take_iff_getElem]
  constructor
  · rintro ⟨k, h1, h2⟩
    exact ⟨k, by omega, by omega, h2⟩
  · rintro ⟨k, h1, h2, h3⟩
    exact ⟨k, by omega, h3⟩
structure ProgCap (p : ProgD) : Prop where
  fields : ∀ h ∈ p.headers.l, h.fields.l.length ≤ h.fields.c
  params : ∀ a ∈ p.actions.l, a.params.l.length ≤ a.params.c
  dep : p.deparser.l.length ≤ p.deparser.c
  dflt : ∀ t ∈ p.tables.l, (Lit.int .i64 t.defA).wf = true
  args : ∀ t ∈ p.tables.l, ∀ v ∈ t.args.l, (Lit.int .u32 v).wf = true
  cases : ∀ s ∈ p.states.l, ∀ c ∈ s.cases.l, (Lit.int .u32 c.value).wf = true ∧ (Lit.int .u32 c.mask).wf = true
structure DiagD where
  code : Int
  part : Int
  item : Int
  sub : Int
def DiagD.val (d : DiagD) : Value := .agg #[.int .i64 d.code, .int .i64 d.part, .int .i64 d.item, .int .i64 d.sub]
def noDiag : DiagD := ⟨0, 0, 0, 0⟩
def outE : Option DiagD → Ending
  | none => .returned (.tuple #[])
  | some d => .panicked [{ v := .iface 137 d.val, recovered := false }]
def limM (p : ProgD) : Option DiagD :=
  if ident p.name = false then some ⟨6, 0, 0, 0⟩
  else if 8 < p.headers.l.length then some ⟨12, 0, 1, 0⟩
  else if 4 < p.registers.l.length then some ⟨12, 0, 3, 0⟩
  else if 16 < p.actions.l.length then some ⟨12, 0, 4, 0⟩
  else if 12 < p.tables.l.length then some ⟨12, 0, 5, 0⟩
  else none
def fldM (l : List FieldD) (i : Nat) : Option Int :=
  match l[i]? with
  | none => none
  | some f => if ident f.name = false then some 6 else if okW f.width = false then some 10 else if dupB (l.map FieldD.name) i = true then some 7 else none
def widthSum (l : List FieldD) : Int := (l.map FieldD.width).sum
def hdrM (h : HeaderD) : Int :=
  if ident h.name = false then 6 else if h.fields.l.length = 0 then 8 else if 12 < h.fields.l.length then 12
  else match firstE h.fields.l.length (fldM h.fields.l) with
    | some e => e
    | none => if Int.tmod (widthSum h.fields.l) 8 ≠ 0 then 10 else 0
def metaName : ByteArray := ⟨#[109, 101, 116, 97]⟩
def hdrAtM (l : List HeaderD) (i : Nat) : Option DiagD :=
  match l[i]? with
  | none => none
  | some h => if hdrM h ≠ 0 then some ⟨hdrM h, 1, i, 0⟩ else if h.name = metaName then some ⟨6, 1, i, 0⟩ else if dupB (l.map HeaderD.name) i = true then some ⟨7, 1, i, 0⟩ else none
def hdrsM (p : ProgD) : Option DiagD := firstE p.headers.l.length (hdrAtM p.headers.l)
def metaWant : List FieldD := [⟨⟨#[105, 110]⟩, 8⟩, ⟨⟨#[111, 117, 116]⟩, 8⟩, ⟨⟨#[100, 114, 111, 112]⟩, 1⟩]
def isWant (l : List FieldD) (i : Nat) : Bool :=
  match l[i]?, metaWant[i]? with
  | some f, some g => decide (f.name = g.name) && decide (f.width = g.width)
  | _, _ => false
def metaM (p : ProgD) : Option DiagD :=
  if 12 < p.metadata.l.length then some ⟨12, 2, 0, 0⟩
  else match firstE p.metadata.l.length (fun i => (fldM p.metadata.l i).map fun e => (⟨e, 2, i, 0⟩ : DiagD)) with
    | some d => some d
    | none => firstE 3 (fun i => if isWant p.metadata.l i = false then some ⟨5, 2, i, 0⟩ else none)
def regM (r : RegD) : Int := if ident r.name = false then 6 else if okW r.width = false then 10 else if r.size < 1 ∨ 64 < r.size then 9 else 0
def regAtM (l : List RegD) (i : Nat) : Option DiagD :=
  match l[i]? with
  | none => none
  | some r => if regM r ≠ 0 then some ⟨regM r, 3, i, 0⟩ else if dupB (l.map RegD.name) i = true then some ⟨7, 3, i, 0⟩ else none
def regsM (p : ProgD) : Option DiagD := firstE p.registers.l.length (regAtM p.registers.l)
def fieldsOf (p : ProgD) (h : Int) : Option (L FieldD) := if h = -1 then some p.metadata else if h < 0 then none else (p.headers.l[h.toNat]?).map HeaderD.fields
def declF (p : ProgD) (h f : Int) : Option FieldD :=
  match fieldsOf p h with
  | none => none
  | some x => if f < 0 then none else x.l[f.toNat]?
def declM (p : ProgD) (h f : Int) : Option Int := (declF p h f).map FieldD.width
def arityM (op : Int) : Int :=
  if 1 ≤ op ∧ op ≤ 4 then 0 else if 5 ≤ op ∧ op ≤ 8 then 1 else if 9 ≤ op ∧ op ≤ 16 then 2 else if op = 17 then 3 else -1
def wideM (w : Int) : Int × Int := if okW w = true then (w, 0) else (0, 10)
def primM (p : ProgD) (ps : List FieldD) (x : NodeD) : Int × Int :=
  if x.op = 1 then (if okW x.w = true then (if x.n < 0 ∨ (maskM x.w : Int) < x.n then (0, 9) else (x.w, 0)) else (0, 10))
  else if x.op = 2 then (match declM p x.n x.w with | none => (0, 8) | some w => wideM w)
  else if x.op = 3 then (if x.n < 0 then (0, 8) else match ps[x.n.toNat]? with | none => (0, 8) | some f => wideM f.width)
  else (if x.n < 0 ∨ (p.headers.l.length : Int) ≤ x.n then (0, 8) else (1, 0))
def combM (x : NodeD) (a b c : Int) : Int × Int :=
  if x.op = 6 ∨ x.op = 7 then (if x.n < 0 ∨ 31 < x.n then (0, 9) else (a, 0))
  else if x.op = 8 then (if x.n < 0 then (0, 9) else if okW x.w = false ∨ a - x.w < x.n then (0, 10) else (x.w, 0))
  else if x.op = 14 then wideM (a + b)
  else if x.op = 17 then (if a ≠ 1 ∨ b ≠ c then (0, 10) else (b, 0))
  else if arityM x.op = 2 ∧ a ≠ b then (0, 10)
  else if x.op = 15 ∨ x.op = 16 then (1, 0)
  else (a, 0)
def chkM (p : ProgD) (ps : List FieldD) (l : List NodeD) : Nat → Nat → Int × Nat × Int
  | 0, _ => (0, 0, 3)
  | m + 1, i => match l[i]? with
    | none => (0, 0, 3)
    | some x =>
      if arityM x.op < 0 then (0, 0, 11)
      else if arityM x.op = 0 then ((primM p ps x).1, i + 1, (primM p ps x).2)
      else
        let r1 := chkM p ps l m (i + 1)
        if r1.2.2 ≠ 0 then (0, 0, r1.2.2)
        else if arityM x.op = 1 then ((combM x r1.1 0 0).1, r1.2.1, (combM x r1.1 0 0).2)
        else
          let r2 := chkM p ps l m r1.2.1
          if r2.2.2 ≠ 0 then (0, 0, r2.2.2)
          else if arityM x.op = 2 then ((combM x r1.1 r2.1 0).1, r2.2.1, (combM x r1.1 r2.1 0).2)
          else
            let r3 := chkM p ps l m r2.2.1
            if r3.2.2 ≠ 0 then (0, 0, r3.2.2)
            else ((combM x r1.1 r2.1 r3.1).1, r3.2.1, (combM x r1.1 r2.1 r3.1).2)
def exprM (p : ProgD) (ps : List FieldD) (l : List NodeD) : Int × Int :=
  if 24 < l.length then (0, 12)
  else if (chkM p ps l (l.length + 1) 0).2.2 ≠ 0 then (0, (chkM p ps l (l.length + 1) 0).2.2)
  else if (chkM p ps l (l.length + 1) 0).2.1 < l.length then (0, 4)
  else ((chkM p ps l (l.length + 1) 0).1, 0)
def sizedM (p : ProgD) (ps : List FieldD) (l : List NodeD) (w : Int) : Int := if (exprM p ps l).2 = 0 ∧ (exprM p ps l).1 ≠ w then 10 else (exprM p ps l).2
def regAt (p : ProgD) (i : Int) : Option RegD := if i < 0 then none else p.registers.l[i.toNat]?
def stmtM (p : ProgD) (ps : List FieldD) (s : StmtD) : Int :=
  if s.kind = 1 then (match declM p s.dh s.df with | none => 8 | some w => sizedM p ps s.value.l w)
  else if s.kind = 2 ∨ s.kind = 3 then (if s.hdr < 0 ∨ (p.headers.l.length : Int) ≤ s.hdr then 8 else 0)
  else if s.kind = 4 then (match regAt p s.reg, declM p s.dh s.df with
    | some r, some w => if (exprM p ps s.index.l).2 ≠ 0 then (exprM p ps s.index.l).2 else if w ≠ r.width then 10 else 0
    | _, _ => 8)
  else if s.kind = 5 then (match regAt p s.reg with
    | some r => if (exprM p ps s.index.l).2 ≠ 0 then (exprM p ps s.index.l).2 else sizedM p ps s.value.l r.width
    | none => 8)
  else 11
def declarM (a : ActD) : Int :=
  if ident a.name = false then 6 else if 4 < a.params.l.length ∨ 12 < a.body.l.length then 12
  else match firstE a.params.l.length (fldM a.params.l) with
    | some e => e
    | none => 0
def actM (p : ProgD) (a : ActD) : Int × Int :=
  if declarM a ≠ 0 then (-1, declarM a)
  else match firstE a.body.l.length (fun k => match a.body.l[k]? with | none => none | some s => if stmtM p a.params.l s ≠ 0 then some ((k : Int), stmtM p a.params.l s) else none) with
    | some r => r
    | none => (0, 0)
def actAtM (p : ProgD) (i : Nat) : Option DiagD :=
  match p.actions.l[i]? with
  | none => none
  | some a => if (actM p a).2 ≠ 0 then some ⟨(actM p a).2, 4, i, (actM p a).1⟩ else if dupB (p.actions.l.map ActD.name) i = true then some ⟨7, 4, i, 0⟩ else none
def actsM (p : ProgD) : Option DiagD := firstE p.actions.l.length (actAtM p)
def callM (p : ProgD) (a : Int) (args : List Int) : Int :=
  if a < 0 then 8 else match p.actions.l[a.toNat]? with
  | none => 8
  | some x => if args.length ≠ x.params.l.length then 2
    else match firstE args.length (fun i => match args[i]?, x.params.l[i]? with | some v, some f => if fitsM v f.width = false then some (9 : Int) else none | _, _ => none) with
      | some e => e
      | none => 0
def keyAtM (p : ProgD) (l : List KeyD) (i : Nat) : Option (Int × Int) :=
  match l[i]? with
  | none => none
  | some k => if widthAt p k.h k.f = 0 then some ((i : Int), 8) else if ¬ (k.kind = 1 ∨ k.kind = 2 ∨ k.kind = 3) then some ((i : Int), 11) else none
def lpmM (l : List KeyD) : Int := (l.map fun k => if k.kind = 2 then (1 : Int) else 0).sum
def bitsM (p : ProgD) (l : List KeyD) : Int := (l.map fun k => widthAt p k.h k.f).sum
def keysM (p : ProgD) (l : List KeyD) : Int × Int :=
  match firstE l.length (keyAtM p l) with
  | some r => r
  | none => if 1 < lpmM l then (-2, 7) else if 64 < bitsM p l then (-2, 10) else (0, 0)
def tactAtM (p : ProgD) (l : List Int) (i : Nat) : Option Int :=
  match l[i]? with
  | none => none
  | some a => if a < 0 ∨ (p.actions.l.length : Int) ≤ a then some 8 else if a ∈ l.take i then some 7 else none
def tactsM (p : ProgD) (t : TabD) : Int :=
  match firstE t.acts.l.length (tactAtM p t.acts.l) with
  | some e => e
  | none => if t.defA ∈ t.acts.l then callM p t.defA t.args.l else 8
def tabM (p : ProgD) (t : TabD) : Int × Int :=
  if ident t.name = false then (-1, 6) else if 6 < t.keys.l.length ∨ 16 < t.acts.l.length then (-1, 12) else if t.size < 1 ∨ 256 < t.size then (-1, 9)
  else if (keysM p t.keys.l).2 ≠ 0 then keysM p t.keys.l else if tactsM p t ≠ 0 then (-3, tactsM p t) else (0, 0)
def tabAtM (p : ProgD) (i : Nat) : Option DiagD :=
  match p.tables.l[i]? with
  | none => none
  | some t => if (tabM p t).2 ≠ 0 then some ⟨(tabM p t).2, 5, i, (tabM p t).1⟩ else if dupB (p.tables.l.map TabD.name) i = true then some ⟨7, 5, i, 0⟩ else none
def tabsM (p : ProgD) : Option DiagD := firstE p.tables.l.length (tabAtM p)
def leadsM (p : ProgD) (s : Nat) (n : Int) : Bool := decide (n = -1) || decide (n = -2) || (decide ((s : Int) < n) && decide (n < (p.states.l.length : Int)))
def within (v m : Int) : Bool := decide (v.toNat &&& m.toNat = v.toNat)
def caseM (p : ProgD) (i : Nat) (w : Int) (c : CaseD) : Int :=
  if fitsM c.value w = false ∨ fitsM c.mask w = false then 9 else if within c.value c.mask = false then 5 else if leadsM p i c.next = false then 14 else 0
def caseAtM (p : ProgD) (i : Nat) (w : Int) (l : List CaseD) (k : Nat) : Option (Int × Int) :=
  match l[k]? with
  | none => none
  | some c => if caseM p i w c ≠ 0 then some ((k : Int), caseM p i w c) else none
def stateM (p : ProgD) (i : Nat) (s : StateD) : Int × Int :=
  if 4 < s.extract.l.length ∨ 8 < s.cases.l.length then (-1, 12)
  else if s.extract.l.any (fun h => decide (h < 0) || decide ((p.headers.l.length : Int) ≤ h)) = true then (-1, 8)
  else if s.sel = true ∧ widthAt p s.oh s.of = 0 then (-1, 8)
  else if s.sel = false ∧ 0 < s.cases.l.length then (-1, 11)
  else match firstE s.cases.l.length (caseAtM p i (widthAt p s.oh s.of) s.cases.l) with
    | some r => r
    | none => if leadsM p i s.dflt = false then (-1, 14) else (0, 0)
def stateAtM (p : ProgD) (i : Nat) : Option (Int × Int × Int) :=
  match p.states.l[i]? with
  | none => none
  | some s => if ident s.name = false then some ((i : Int), -1, 6) else if dupB (p.states.l.map StateD.name) i = true then some ((i : Int), -1, 7)
    else if (stateM p i s).2 ≠ 0 then some ((i : Int), (stateM p i s).1, (stateM p i s).2) else none
def parserM (p : ProgD) : Int × Int × Int :=
  if p.states.l.length = 0 then (-1, -1, 8) else if 12 < p.states.l.length then (-1, -1, 12)
  else match firstE p.states.l.length (stateAtM p) with
    | some r => r
    | none => (0, 0, 0)
mutual
def preM : CtlD → List CtlD
  | .mk k t c th el tA eA tc ec => .mk k t c th el tA eA tc ec :: (presM th ++ presM el)
def presM : List CtlD → List CtlD
  | [] => []
  | x :: l => preM x ++ presM l
end
mutual
def nest1M : CtlD → Nat
  | .mk _ _ _ th el _ _ _ _ => max (nestM th) (nestM el)
def nestM : List CtlD → Nat
  | [] => 0
  | x :: l => max (nest1M x + 1) (nestM l)
end
def appliesM (x : CtlD) : Bool := decide (x.kind = 1) || decide (x.kind = 3)
def usedM (l : List CtlD) : List Int := (l.filter appliesM).map CtlD.table
def nodeM (p : ProgD) (used : List Int) (x : CtlD) : Int :=
  if x.kind = 1 ∨ x.kind = 3 then
    (if x.table < 0 ∨ (p.tables.l.length : Int) ≤ x.table then 8 else if x.table ∈ used then 7 else if x.kind = 1 ∧ 0 < x.th.l.length + x.el.l.length then 5 else 0)
  else if x.kind = 2 then (if (exprM p [] x.cond.l).2 ≠ 0 then (exprM p [] x.cond.l).2 else if (exprM p [] x.cond.l).1 ≠ 1 then 10 else 0)
  else 11
def nodeAtM (p : ProgD) (l : List CtlD) (i : Nat) : Option (Int × Int) :=
  match l[i]? with
  | none => none
  | some x => if nodeM p (usedM (l.take i)) x ≠ 0 then some ((i : Int), nodeM p (usedM (l.take i)) x) else none
def ctlM (p : ProgD) : Int × Int :=
  if 24 < (presM p.control.l).length then (-1, 12) else if 6 < nestM p.control.l then (-1, 14)
  else match firstE (presM p.control.l).length (nodeAtM p (presM p.control.l)) with
    | some r => r
    | none => (0, 0)
def depAtM (p : ProgD) (l : List Int) (i : Nat) : Option (Int × Int) :=
  match l[i]? with
  | none => none
  | some h => if h < 0 ∨ (p.headers.l.length : Int) ≤ h then some ((i : Int), 8) else if h ∈ l.take i then some ((i : Int), 7) else none
def depM (p : ProgD) : Int × Int :=
  if 8 < p.deparser.l.length then (-1, 12) else match firstE p.deparser.l.length (depAtM p p.deparser.l) with
    | some r => r
    | none => (0, 0)
def flowM (p : ProgD) : Option DiagD :=
  if (parserM p).2.2 ≠ 0 then some ⟨(parserM p).2.2, 6, (parserM p).1, (parserM p).2.1⟩
  else if (ctlM p).2 ≠ 0 then some ⟨(ctlM p).2, 7, (ctlM p).1, 0⟩
  else if (depM p).2 ≠ 0 then some ⟨(depM p).2, 8, (depM p).1, 0⟩
  else none
def orE {α : Type} : Option α → Option α → Option α
  | some a, _ => some a
  | none, b => b
def checkM (p : ProgD) : Option DiagD := orE (limM p) (orE (hdrsM p) (orE (metaM p) (orE (regsM p) (orE (actsM p) (orE (tabsM p) (flowM p))))))
theorem Tryz.infoString : (Tryz.prog.info? 9).map (fun i => (i.zero, i.size, i.bytes)) = some (some (.string ⟨#[]⟩), 1, 16) := by kernel_rfl
def strs (l : List ByteArray) : List Value := l.map Value.string
def OwnStrs (w' : World) (B : Nat) (A : Option Addr) (c : Nat) (l : List ByteArray) : Prop := w'.ownsRow B 9 1 (.slice A l.length c) l.length (strs l)
theorem one_str (w : World) (s : ByteArray) (t : TypeId) : ∀ j v, [Value.string s][j]? = some v → (w.alloc (.cells #[.string s] t)).cell? ((⟨w.heap.size, 0, none⟩ : Addr).add j) = some v := by
  intro j v hj
  match j, hj with
  | 0, hj => simp at hj; subst hj; simp [Addr.add]
theorem names_header (x : L HeaderD) (w : World) (h : LOk w 2 HeaderD.cells x) (hm : x.l.length ≤ 100) :
    Calls Tryz.prog 119 #[x.v, .func (.func 120) #[] #[]] w fun e w' =>
      ∃ A c, e = .returned (.slice A x.l.length c) ∧ OwnStrs w' w.heap.size A c (x.l.map HeaderD.name) ∧ Below w.heap.size w w' := by
  obtain ⟨l, A0, c0⟩ := x
  have HX := hi_ h
  clear h
  simp only [L.v] at *
  obtain ⟨i0, hi, hz0, hz1, hz2⟩ := info_parts Tryz.infoString
  go_enter Tryz.func119, Tryz.ntmps119
  go_wp2
  go_loopw [5, 7, 10] (fun o xv iv wr => ∃ (k : Nat) (A : Option Addr) (c : Nat), k ≤ l.length ∧ iv = .int .i64 k ∧ o = .slice A k c ∧ wr.ownsRow w.heap.size 9 1 (.slice A k c) k (strs ((l.take k).map HeaderD.name)) ∧ Below w.heap.size w wr)
    (fun _ _ i _ => l.length - (intOf i).toNat)
  case atStart => exact ⟨0, none, 0, Nat.zero_le _, rfl, rfl, World.ownsRow_nil _ _ _ _, Below.refl _ _⟩
  case round =>
    obtain ⟨k, A, c, hk, rfl, rfl, hown, hbel⟩ := hrel
    by_cases hlt : k < l.length
    · obtain ⟨g, of, rfl, d0, d1⟩ := HeaderD.at (HX.out.below hbel (Nat.le_refl _)) hlt
      simp only at d0 d1
      have HT : Hid (l.take (k + 1) = l.take k ++ [l[k]]) := hi_ (List.take_succ_eq_append_getElem hlt)
      generalize l[k] = y at *
      have HO := hi_ hown
      have HB := hi_ hbel
      clear hown hbel
      go_wp2_with fail
      refine (headerName_any y _).mono ?_
      rintro e w1 ⟨rfl, hb1⟩
      have hb2 : Below wr.heap.size wr w1 := (below_alloc (Below.refl _ _) _).trans (hb1.mono (below_alloc (Below.refl _ _) _).size)
      have hown1 := own_below HO.out hb2
      have hbel1 := HB.out.trans (hb2.mono HB.out.size)
      clear hb1 hb2
      go_wp2_with (first
        | (at_builtin; refine wpList_append_own _ rfl _ _ 172 rfl w.heap.size 9 i0 _ 1 16 Tryz.underlying172 hi hz0 hz1 hz2 rfl (by decide) _ _ _ rfl (hown1.alloc _) ⟨w1.heap.size, 0, none⟩ 1 1 [.string y.name] rfl rfl ?c1 ?c2 ?c3 ?c4 ?c5 ?_))
      case c1 => exact one_str _ _ _
      case c2 => intro u hu; simp at hu; subst hu; rfl
      case c3 => unfold maxLen; omega
      case c4 => omega
      case c5 => have := hbel1.size; simp; omega
      intro v' w2 hown2 hgrow _
      have hbel2 : Below w.heap.size w w2 := (hbel1.alloc hbel1.size _).grown hgrow (hbel1.alloc hbel1.size _).size fun j hj => (hown1.lt j hj).1
      obtain ⟨A', c', rfl⟩ : ∃ A' c', v' = .slice A' (k + 1) c' := by
        rcases hown2.2 with ⟨hv, h0⟩ | ⟨g', cap, cur, hv, _, _, _⟩
        · omega
        · exact ⟨_, _, hv⟩
      go_wp2
      go_roundw
      case rel =>
        refine ⟨k + 1, A', c', by omega, by go_num, rfl, ?_, hbel2⟩
        rw [HT.out, List.map_append]
        simpa [strs] using hown2
      case measure => simp [intOf]; omega
    · have hk' : k = l.length := by omega
      subst hk'
      rw [List.take_length] at hown
      have HO := hi_ hown
      clear hown
      go_wp2
      go_ret
      exact ⟨A, c, rfl, by simpa [OwnStrs] using HO.out, hbel⟩
theorem names_field (x : L FieldD) (w : World) (h : LOk w 2 FieldD.cells x) (hm : x.l.length ≤ 100) :
    Calls Tryz.prog 123 #[x.v, .func (.func 124) #[] #[]] w fun e w' =>
      ∃ A c, e = .returned (.slice A x.l.length c) ∧ OwnStrs w' w.heap.size A c (x.l.map FieldD.name) ∧ Below w.heap.size w w' := by
  obtain ⟨l, A0, c0⟩ := x
  have HX := hi_ h
  clear h
  simp only [L.v] at *
  obtain ⟨i0, hi, hz0, hz1, hz2⟩ := info_parts Tryz.infoString
  go_enter Tryz.func123, Tryz.ntmps123
  go_wp2
  go_loopw [5, 7, 10] (fun o xv iv wr => ∃ (k : Nat) (A : Option Addr) (c : Nat), k ≤ l.length ∧ iv = .int .i64 k ∧ o = .slice A k c ∧ wr.ownsRow w.heap.size 9 1 (.slice A k c) k (strs ((l.take k).map FieldD.name)) ∧ Below w.heap.size w wr)
    (fun _ _ i _ => l.length - (intOf i).toNat)
  case atStart => exact ⟨0, none, 0, Nat.zero_le _, rfl, rfl, World.ownsRow_nil _ _ _ _, Below.refl _ _⟩
  case round =>
    obtain ⟨k, A, c, hk, rfl, rfl, hown, hbel⟩ := hrel
    by_cases hlt : k < l.length
    · obtain ⟨g, of, rfl, d0, d1⟩ := FieldD.at (HX.out.below hbel (Nat.le_refl _)) hlt
      simp only at d0 d1
      have HT : Hid (l.take (k + 1) = l.take k ++ [l[k]]) := hi_ (List.take_succ_eq_append_getElem hlt)
      generalize l[k] = y at *
      have HO := hi_ hown
      have HB := hi_ hbel
      clear hown hbel
      go_wp2_with fail
      refine (fieldName_any y _).mono ?_
      rintro e w1 ⟨rfl, hb1⟩
      have hb2 : Below wr.heap.size wr w1 := (below_alloc (Below.refl _ _) _).trans (hb1.mono (below_alloc (Below.refl _ _) _).size)
      have hown1 := own_below HO.out hb2
      have hbel1 := HB.out.trans (hb2.mono HB.out.size)
      clear hb1 hb2
      go_wp2_with (first
        | (at_builtin; refine wpList_append_own _ rfl _ _ 172 rfl w.heap.size 9 i0 _ 1 16 Tryz.underlying172 hi hz0 hz1 hz2 rfl (by decide) _ _ _ rfl (hown1.alloc _) ⟨w1.heap.size, 0, none⟩ 1 1 [.string y.name] rfl rfl ?c1 ?c2 ?c3 ?c4 ?c5 ?_))
      case c1 => exact one_str _ _ _
      case c2 => intro u hu; simp at hu; subst hu; rfl
      case c3 => unfold maxLen; omega
      case c4 => omega
      case c5 => have := hbel1.size; simp; omega
      intro v' w2 hown2 hgrow _
      have hbel2 : Below w.heap.size w w2 := (hbel1.alloc hbel1.size _).grown hgrow (hbel1.alloc hbel1.size _).size fun j hj => (hown1.lt j hj).1
      obtain ⟨A', c', rfl⟩ : ∃ A' c', v' = .slice A' (k + 1) c' := by
        rcases hown2.2 with ⟨hv, h0⟩ | ⟨g', cap, cur, hv, _, _, _⟩
        · omega
        · exact ⟨_, _, hv⟩
      go_wp2
      go_roundw
      case rel =>
        refine ⟨k + 1, A', c', by omega, by go_num, rfl, ?_, hbel2⟩
        rw [HT.out, List.map_append]
        simpa [strs] using hown2
      case measure => simp [intOf]; omega
    · have hk' : k = l.length := by omega
      subst hk'
      rw [List.take_length] at hown
      have HO := hi_ hown
      clear hown
      go_wp2
      go_ret
      exact ⟨A, c, rfl, by simpa [OwnStrs] using HO.out, hbel⟩
theorem names_register (x : L RegD) (w : World) (h : LOk w 3 RegD.cells x) (hm : x.l.length ≤ 100) :
    Calls Tryz.prog 126 #[x.v, .func (.func 127) #[] #[]] w fun e w' =>
      ∃ A c, e = .returned (.slice A x.l.length c) ∧ OwnStrs w' w.heap.size A c (x.l.map RegD.name) ∧ Below w.heap.size w w' := by
  obtain ⟨l, A0, c0⟩ := x
  have HX := hi_ h
  clear h
  simp only [L.v] at *
  obtain ⟨i0, hi, hz0, hz1, hz2⟩ := info_parts Tryz.infoString
  go_enter Tryz.func126, Tryz.ntmps126
  go_wp2
  go_loopw [5, 7, 10] (fun o xv iv wr => ∃ (k : Nat) (A : Option Addr) (c : Nat), k ≤ l.length ∧ iv = .int .i64 k ∧ o = .slice A k c ∧ wr.ownsRow w.heap.size 9 1 (.slice A k c) k (strs ((l.take k).map RegD.name)) ∧ Below w.heap.size w wr)
    (fun _ _ i _ => l.length - (intOf i).toNat)
  case atStart => exact ⟨0, none, 0, Nat.zero_le _, rfl, rfl, World.ownsRow_nil _ _ _ _, Below.refl _ _⟩
  case round =>
    obtain ⟨k, A, c, hk, rfl, rfl, hown, hbel⟩ := hrel
    by_cases hlt : k < l.length
    · obtain ⟨g, of, rfl, d0, d1, d2⟩ := RegD.at (HX.out.below hbel (Nat.le_refl _)) hlt
      simp only at d0 d1 d2
      have HT : Hid (l.take (k + 1) = l.take k ++ [l[k]]) := hi_ (List.take_succ_eq_append_getElem hlt)
      generalize l[k] = y at *
      have HO := hi_ hown
      have HB := hi_ hbel
      clear hown hbel
      go_wp2_with fail
      refine (registerName_any y _).mono ?_
      rintro e w1 ⟨rfl, hb1⟩
      have hb2 : Below wr.heap.size wr w1 := (below_alloc (Below.refl _ _) _).trans (hb1.mono (below_alloc (Below.refl _ _) _).size)
      have hown1 := own_below HO.out hb2
      have hbel1 := HB.out.trans (hb2.mono HB.out.size)
      clear hb1 hb2
      go_wp2_with (first
        | (at_builtin; refine wpList_append_own _ rfl _ _ 172 rfl w.heap.size 9 i0 _ 1 16 Tryz.underlying172 hi hz0 hz1 hz2 rfl (by decide) _ _ _ rfl (hown1.alloc _) ⟨w1.heap.size, 0, none⟩ 1 1 [.string y.name] rfl rfl ?c1 ?c2 ?c3 ?c4 ?c5 ?_))
      case c1 => exact one_str _ _ _
      case c2 => intro u hu; simp at hu; subst hu; rfl
      case c3 => unfold maxLen; omega
      case c4 => omega
      case c5 => have := hbel1.size; simp; omega
      intro v' w2 hown2 hgrow _
      have hbel2 : Below w.heap.size w w2 := (hbel1.alloc hbel1.size _).grown hgrow (hbel1.alloc hbel1.size _).size fun j hj => (hown1.lt j hj).1
      obtain ⟨A', c', rfl⟩ : ∃ A' c', v' = .slice A' (k + 1) c' := by
        rcases hown2.2 with ⟨hv, h0⟩ | ⟨g', cap, cur, hv, _, _, _⟩
        · omega
        · exact ⟨_, _, hv⟩
      go_wp2
      go_roundw
      case rel =>
        refine ⟨k + 1, A', c', by omega, by go_num, rfl, ?_, hbel2⟩
        rw [HT.out, List.map_append]
        simpa [strs] using hown2
      case measure => simp [intOf]; omega
    · have hk' : k = l.length := by omega
      subst hk'
      rw [List.take_length] at hown
      have HO := hi_ hown
      clear hown
      go_wp2
      go_ret
      exact ⟨A, c, rfl, by simpa [OwnStrs] using HO.out, hbel⟩
theorem names_action (x : L ActD) (w : World) (h : LOk w 3 ActD.cells x) (hm : x.l.length ≤ 100) :
    Calls Tryz.prog 129 #[x.v, .func (.func 130) #[] #[]] w fun e w' =>
      ∃ A c, e = .returned (.slice A x.l.length c) ∧ OwnStrs w' w.heap.size A c (x.l.map ActD.name) ∧ Below w.heap.size w w' := by
  obtain ⟨l, A0, c0⟩ := x
  have HX := hi_ h
  clear h
  simp only [L.v] at *
  obtain ⟨i0, hi, hz0, hz1, hz2⟩ := info_parts Tryz.infoString
  go_enter Tryz.func129, Tryz.ntmps129
  go_wp2
  go_loopw [5, 7, 10] (fun o xv iv wr => ∃ (k : Nat) (A : Option Addr) (c : Nat), k ≤ l.length ∧ iv = .int .i64 k ∧ o = .slice A k c ∧ wr.ownsRow w.heap.size 9 1 (.slice A k c) k (strs ((l.take k).map ActD.name)) ∧ Below w.heap.size w wr)
    (fun _ _ i _ => l.length - (intOf i).toNat)
  case atStart => exact ⟨0, none, 0, Nat.zero_le _, rfl, rfl, World.ownsRow_nil _ _ _ _, Below.refl _ _⟩
  case round =>
    obtain ⟨k, A, c, hk, rfl, rfl, hown, hbel⟩ := hrel
    by_cases hlt : k < l.length
    · obtain ⟨g, of, rfl, d0, d1, d2⟩ := ActD.at (HX.out.below hbel (Nat.le_refl _)) hlt
      simp only at d0 d1 d2
      have HT : Hid (l.take (k + 1) = l.take k ++ [l[k]]) := hi_ (List.take_succ_eq_append_getElem hlt)
      generalize l[k] = y at *
      have HO := hi_ hown
      have HB := hi_ hbel
      clear hown hbel
      go_wp2_with fail
      refine (actionName_any y _).mono ?_
      rintro e w1 ⟨rfl, hb1⟩
      have hb2 : Below wr.heap.size wr w1 := (below_alloc (Below.refl _ _) _).trans (hb1.mono (below_alloc (Below.refl _ _) _).size)
      have hown1 := own_below HO.out hb2
      have hbel1 := HB.out.trans (hb2.mono HB.out.size)
      clear hb1 hb2
      go_wp2_with (first
        | (at_builtin; refine wpList_append_own _ rfl _ _ 172 rfl w.heap.size 9 i0 _ 1 16 Tryz.underlying172 hi hz0 hz1 hz2 rfl (by decide) _ _ _ rfl (hown1.alloc _) ⟨w1.heap.size, 0, none⟩ 1 1 [.string y.name] rfl rfl ?c1 ?c2 ?c3 ?c4 ?c5 ?_))
      case c1 => exact one_str _ _ _
      case c2 => intro u hu; simp at hu; subst hu; rfl
      case c3 => unfold maxLen; omega
      case c4 => omega
      case c5 => have := hbel1.size; simp; omega
      intro v' w2 hown2 hgrow _
      have hbel2 : Below w.heap.size w w2 := (hbel1.alloc hbel1.size _).grown hgrow (hbel1.alloc hbel1.size _).size fun j hj => (hown1.lt j hj).1
      obtain ⟨A', c', rfl⟩ : ∃ A' c', v' = .slice A' (k + 1) c' := by
        rcases hown2.2 with ⟨hv, h0⟩ | ⟨g', cap, cur, hv, _, _, _⟩
        · omega
        · exact ⟨_, _, hv⟩
      go_wp2
      go_roundw
      case rel =>
        refine ⟨k + 1, A', c', by omega, by go_num, rfl, ?_, hbel2⟩
        rw [HT.out, List.map_append]
        simpa [strs] using hown2
      case measure => simp [intOf]; omega
    · have hk' : k = l.length := by omega
      subst hk'
      rw [List.take_length] at hown
      have HO := hi_ hown
      clear hown
      go_wp2
      go_ret
      exact ⟨A, c, rfl, by simpa [OwnStrs] using HO.out, hbel⟩
theorem names_table (x : L TabD) (w : World) (h : LOk w 6 TabD.cells x) (hm : x.l.length ≤ 100) :
    Calls Tryz.prog 132 #[x.v, .func (.func 133) #[] #[]] w fun e w' =>
      ∃ A c, e = .returned (.slice A x.l.length c) ∧ OwnStrs w' w.heap.size A c (x.l.map TabD.name) ∧ Below w.heap.size w w' := by
  obtain ⟨l, A0, c0⟩ := x
  have HX := hi_ h
  clear h
  simp only [L.v] at *
  obtain ⟨i0, hi, hz0, hz1, hz2⟩ := info_parts Tryz.infoString
  go_enter Tryz.func132, Tryz.ntmps132
  go_wp2
  go_loopw [5, 7, 10] (fun o xv iv wr => ∃ (k : Nat) (A : Option Addr) (c : Nat), k ≤ l.length ∧ iv = .int .i64 k ∧ o = .slice A k c ∧ wr.ownsRow w.heap.size 9 1 (.slice A k c) k (strs ((l.take k).map TabD.name)) ∧ Below w.heap.size w wr)
    (fun _ _ i _ => l.length - (intOf i).toNat)
  case atStart => exact ⟨0, none, 0, Nat.zero_le _, rfl, rfl, World.ownsRow_nil _ _ _ _, Below.refl _ _⟩
  case round =>
    obtain ⟨k, A, c, hk, rfl, rfl, hown, hbel⟩ := hrel
    by_cases hlt : k < l.length
    · obtain ⟨g, of, rfl, d0, d1, d2, d3, d4, d5⟩ := TabD.at (HX.out.below hbel (Nat.le_refl _)) hlt
      simp only at d0 d1 d2 d3 d4 d5
      have HT : Hid (l.take (k + 1) = l.take k ++ [l[k]]) := hi_ (List.take_succ_eq_append_getElem hlt)
      generalize l[k] = y at *
      have HO := hi_ hown
      have HB := hi_ hbel
      clear hown hbel
      go_wp2_with fail
      refine (tableName_any y _).mono ?_
      rintro e w1 ⟨rfl, hb1⟩
      have hb2 : Below wr.heap.size wr w1 := (below_alloc (Below.refl _ _) _).trans (hb1.mono (below_alloc (Below.refl _ _) _).size)
      have hown1 := own_below HO.out hb2
      have hbel1 := HB.out.trans (hb2.mono HB.out.size)
      clear hb1 hb2
      go_wp2_with (first
        | (at_builtin; refine wpList_append_own _ rfl _ _ 172 rfl w.heap.size 9 i0 _ 1 16 Tryz.underlying172 hi hz0 hz1 hz2 rfl (by decide) _ _ _ rfl (hown1.alloc _) ⟨w1.heap.size, 0, none⟩ 1 1 [.string y.name] rfl rfl ?c1 ?c2 ?c3 ?c4 ?c5 ?_))
      case c1 => exact one_str _ _ _
      case c2 => intro u hu; simp at hu; subst hu; rfl
      case c3 => unfold maxLen; omega
      case c4 => omega
      case c5 => have := hbel1.size; simp; omega
      intro v' w2 hown2 hgrow _
      have hbel2 : Below w.heap.size w w2 := (hbel1.alloc hbel1.size _).grown hgrow (hbel1.alloc hbel1.size _).size fun j hj => (hown1.lt j hj).1
      obtain ⟨A', c', rfl⟩ : ∃ A' c', v' = .slice A' (k + 1) c' := by
        rcases hown2.2 with ⟨hv, h0⟩ | ⟨g', cap, cur, hv, _, _, _⟩
        · omega
        · exact ⟨_, _, hv⟩
      go_wp2
      go_roundw
      case rel =>
        refine ⟨k + 1, A', c', by omega, by go_num, rfl, ?_, hbel2⟩
        rw [HT.out, List.map_append]
        simpa [strs] using hown2
      case measure => simp [intOf]; omega
    · have hk' : k = l.length := by omega
      subst hk'
      rw [List.take_length] at hown
      have HO := hi_ hown
      clear hown
      go_wp2
      go_ret
      exact ⟨A, c, rfl, by simpa [OwnStrs] using HO.out, hbel⟩
@[reducible] def progCells (p : ProgD) : Array Value := #[.string p.name, .slice p.headers.A p.headers.l.length p.headers.c, .slice p.metadata.A p.metadata.l.length p.metadata.c,
  .slice p.registers.A p.registers.l.length p.registers.c, .slice p.actions.A p.actions.l.length p.actions.c, .slice p.tables.A p.tables.l.length p.tables.c,
  .slice p.states.A p.states.l.length p.states.c, .slice p.control.A p.control.l.length p.control.c, .slice p.deparser.A p.deparser.l.length p.deparser.c]
theorem prog_box (w : World) (p : ProgD) (t : TypeId) : ∃ W, W = w.alloc (.cells #[.string p.name, .slice p.headers.A p.headers.l.length p.headers.c, .slice p.metadata.A p.metadata.l.length p.metadata.c,
      .slice p.registers.A p.registers.l.length p.registers.c, .slice p.actions.A p.actions.l.length p.actions.c, .slice p.tables.A p.tables.l.length p.tables.c,
      .slice p.states.A p.states.l.length p.states.c, .slice p.control.A p.control.l.length p.control.c, .slice p.deparser.A p.deparser.l.length p.deparser.c] t) ∧
    Below w.heap.size w W ∧ Below W.heap.size W W ∧ ∀ w', Below W.heap.size W w' →
      (w'.cell? ⟨w.heap.size, 0, none⟩ = some (.string p.name) ∧ w'.cell? ⟨w.heap.size, 1, none⟩ = some (.slice p.headers.A p.headers.l.length p.headers.c) ∧
       w'.cell? ⟨w.heap.size, 2, none⟩ = some (.slice p.metadata.A p.metadata.l.length p.metadata.c) ∧ w'.cell? ⟨w.heap.size, 3, none⟩ = some (.slice p.registers.A p.registers.l.length p.registers.c) ∧
       w'.cell? ⟨w.heap.size, 4, none⟩ = some (.slice p.actions.A p.actions.l.length p.actions.c) ∧ w'.cell? ⟨w.heap.size, 5, none⟩ = some (.slice p.tables.A p.tables.l.length p.tables.c) ∧
       w'.cell? ⟨w.heap.size, 6, none⟩ = some (.slice p.states.A p.states.l.length p.states.c) ∧ w'.cell? ⟨w.heap.size, 7, none⟩ = some (.slice p.control.A p.control.l.length p.control.c) ∧
       w'.cell? ⟨w.heap.size, 8, none⟩ = some (.slice p.deparser.A p.deparser.l.length p.deparser.c)) := by
  refine ⟨_, rfl, below1 _ _, Below.refl _ _, fun w' hb => ⟨?_, ?_, ?_, ?_, ?_, ?_, ?_, ?_, ?_⟩⟩ <;> exact below_cell hb (by simp)
theorem repeated_any (l : List ByteArray) (g c i : Nat) (w : World) (hi : i < l.length) (hm : l.length ≤ 1000) (hcap : l.length ≤ c) (hc : ∀ j, j < l.length → w.cell? ⟨g, 0 + j, none⟩ = some (.string (l.getD j ByteArray.empty))) :
    Calls Tryz.prog 122 #[.slice (some ⟨g, 0, none⟩) l.length c, .int .i64 i] w fun e w' => e = .returned (.bool (Lib.containsS (l.take i) (l.getD i ByteArray.empty))) ∧ Below w.heap.size w w' := by
  have h1 : (0 : Int) ≤ i := by omega
  have h2 : (i : Int) < (l.length : Int) := by omega
  have h3 : (i : Int) ≤ (c : Int) := by omega
  have hd : ∀ w', Below w.heap.size w w' → w'.cell? ⟨g, i, none⟩ = some (.string (l.getD i ByteArray.empty)) := fun w' hb => below_cell hb (by have := hc i hi; rwa [Nat.zero_add] at this)
  have H0 := hi_ (Below.refl w.heap.size w)
  have HC := hi_ hc
  clear hc
  generalize hx : l.getD i ByteArray.empty = x at *
  go_enter Tryz.func122, Tryz.ntmps122
  go_wp2
  go_region_held3 (fun w' => Below w.heap.size w w') (first | exact H0.out | exact below_drew H0.out | (exact below_step (by assumption) (by assumption)) | assumption)
    (first | (go_at_call 168; refine (Tryz.slices_Contains_string g 0 i c l x _ (by omega) (by omega) (fun j hj => below_cell (by assumption) (HC.out j hj))).mono ?_; rintro e w1 ⟨rfl, rfl⟩))
  go_wp2
  go_ret
  exact ⟨rfl, by assumption⟩
theorem when_false (b : Bool) (c : Int) (w : World) (h : b = false) :
    Calls Tryz.prog 117 #[.bool b, .int .i64 c] w fun e w' => e = .returned (.int .i64 0) ∧ w = w' := by
  subst h; exact when_any false c w
theorem OwnStrs.form {w : World} {B c : Nat} {A : Option Addr} {l : List ByteArray} (h : OwnStrs w B A c l) (h0 : 0 < l.length) :
    ∃ g, A = some ⟨g, 0, none⟩ ∧ g < w.heap.size ∧ l.length ≤ c ∧ ∀ j, j < l.length → w.cell? ⟨g, 0 + j, none⟩ = some (.string (l.getD j ByteArray.empty)) := by
  have h' : w.ownsRow B 9 1 (.slice A l.length c) l.length (strs l) := h
  rcases h'.2 with ⟨_, h1⟩ | ⟨g, cap, cur, hv, _, hblk, hle, _, _, _⟩
  · omega
  · have hA : A = some ⟨g, 0, none⟩ := by injection hv
    have hc : c = cap := by injection hv
    subst hA
    refine ⟨g, rfl, ?_, by omega, fun j hj => ?_⟩
    · rcases Nat.lt_or_ge g w.heap.size with h2 | h2
      · exact h2
      · rw [Array.getElem?_eq_none h2] at hblk; cases hblk
    · rw [Nat.zero_add, h'.cellAt j (by omega)]
      simp [strs, List.getD, hj]
theorem i95_0 (x0 x1 x2 : ByteArray) (n0 n1 n2 : Int) (w : World) : (Instr.index 179 (.agg #[.string x0, .int .i64 n0, .string x1, .int .i64 n1, .string x2, .int .i64 n2]) (.int .i64 0)).run Tryz.prog w = .ok (.agg #[.string x0, .int .i64 n0]) w := by kernel_rfl
theorem i95_1 (x0 x1 x2 : ByteArray) (n0 n1 n2 : Int) (w : World) : (Instr.index 179 (.agg #[.string x0, .int .i64 n0, .string x1, .int .i64 n1, .string x2, .int .i64 n2]) (.int .i64 1)).run Tryz.prog w = .ok (.agg #[.string x1, .int .i64 n1]) w := by kernel_rfl
theorem i95_2 (x0 x1 x2 : ByteArray) (n0 n1 n2 : Int) (w : World) : (Instr.index 179 (.agg #[.string x0, .int .i64 n0, .string x1, .int .i64 n1, .string x2, .int .i64 n2]) (.int .i64 2)).run Tryz.prog w = .ok (.agg #[.string x2, .int .i64 n2]) w := by kernel_rfl
theorem box1 (w : World) (cs : Array Value) (t : TypeId) : ∃ W, W = w.alloc (.cells cs t) ∧ Below w.heap.size w W ∧ Below W.heap.size W W ∧
    ∀ w', Below W.heap.size W w' → ∀ i, i < cs.size → w'.cell? ⟨w.heap.size, i, none⟩ = cs[i]? := by
  refine ⟨_, rfl, below1 _ _, Below.refl _ _, fun w' hb i hi => ?_⟩
  rw [Array.getElem?_eq_getElem hi]
  exact below_cell hb (by simp [hi])
theorem box2 (w : World) (cs : Array Value) (t : TypeId) (cs2 : Array Value) (t2 : TypeId) : ∃ W, W = (w.alloc (.cells cs t)).alloc (.cells cs2 t2) ∧ Below w.heap.size w W ∧ Below W.heap.size W W ∧
    ∀ w', Below W.heap.size W w' → (∀ i, i < cs.size → w'.cell? ⟨w.heap.size, i, none⟩ = cs[i]?) ∧ ∀ i, i < cs2.size → w'.cell? ⟨w.heap.size + 1, i, none⟩ = cs2[i]? := by
  refine ⟨_, rfl, below2 _ _ _, Below.refl _ _, fun w' hb => ⟨fun i hi => ?_, fun i hi => ?_⟩⟩
  all_goals
    rw [Array.getElem?_eq_getElem hi]
    exact below_cell hb (by simp [hi])
theorem CaseD.at {w : World} {x : L CaseD} (h : LOk w 3 CaseD.cells x) {i : Nat} (hi : i < x.l.length) :
    ∃ g o, x.A = some ⟨g, o, none⟩ ∧ w.cell? ⟨g, o + i * 3, none⟩ = some (.int .u32 x.l[i].value) ∧ w.cell? ⟨g, o + i * 3 + 1, none⟩ = some (.int .u32 x.l[i].mask) ∧ w.cell? ⟨g, o + i * 3 + 2, none⟩ = some (.int .i64 x.l[i].next) := by
  obtain ⟨g, o, e, _, hc⟩ := h.at hi
  exact ⟨g, o, e, hc 0 (by omega), hc 1 (by omega), hc 2 (by omega)⟩
theorem toList_inj {a b : ByteArray} : a.toList = b.toList ↔ a = b := by
  constructor
  · intro h
    rw [toList_data, toList_data] at h
    cases a; cases b
    simp only [Array.toList_inj] at h
    rw [h]
  · rintro rfl; rfl
theorem toList_true {a b : ByteArray} (h : a = b) : (a.toList == b.toList) = true := beq_iff_eq.2 (toList_inj.2 h)
theorem toList_false {a b : ByteArray} (h : ¬ a = b) : (a.toList == b.toList) = false := beq_eq_false_iff_ne.2 fun e => h (toList_inj.1 e)
theorem when_true (b : Bool) (c : Int) (w : World) (h : b = true) :
    Calls Tryz.prog 117 #[.bool b, .int .i64 c] w fun e w' => e = .returned (.int .i64 c) ∧ w = w' := by
  subst h; exact when_any true c w
theorem NodeD.atA {w : World} {x : L NodeD} (h : LOk w 3 NodeD.cells x) {i : Nat} (hi : i < x.l.length) :
    ∃ g o, x.A = some ⟨g, o, none⟩ ∧ ∀ w', Below w.heap.size w w' → w'.cell? ⟨g, o + i * 3, none⟩ = some (.int .i64 x.l[i].op) ∧ w'.cell? ⟨g, o + i * 3 + 1, none⟩ = some (.int .i64 x.l[i].n) ∧ w'.cell? ⟨g, o + i * 3 + 2, none⟩ = some (.int .i64 x.l[i].w) := by
  obtain ⟨g, o, e, d0, d1, d2⟩ := NodeD.at h hi
  exact ⟨g, o, e, fun w' hb => ⟨below_cell hb d0, below_cell hb d1, below_cell hb d2⟩⟩
theorem FieldD.atA {w : World} {x : L FieldD} (h : LOk w 2 FieldD.cells x) {i : Nat} (hi : i < x.l.length) :
    ∃ g o, x.A = some ⟨g, o, none⟩ ∧ ∀ w', Below w.heap.size w w' → w'.cell? ⟨g, o + i * 2, none⟩ = some (.string x.l[i].name) ∧ w'.cell? ⟨g, o + i * 2 + 1, none⟩ = some (.int .i64 x.l[i].width) := by
  obtain ⟨g, o, e, d0, d1⟩ := FieldD.at h hi
  exact ⟨g, o, e, fun w' hb => ⟨below_cell hb d0, below_cell hb d1⟩⟩
theorem HeaderD.atA {w : World} {x : L HeaderD} (h : LOk w 2 HeaderD.cells x) {i : Nat} (hi : i < x.l.length) :
    ∃ g o, x.A = some ⟨g, o, none⟩ ∧ ∀ w', Below w.heap.size w w' → w'.cell? ⟨g, o + i * 2, none⟩ = some (.string x.l[i].name) ∧ w'.cell? ⟨g, o + i * 2 + 1, none⟩ = some (.slice x.l[i].fields.A x.l[i].fields.l.length x.l[i].fields.c) := by
  obtain ⟨g, o, e, d0, d1⟩ := HeaderD.at h hi
  exact ⟨g, o, e, fun w' hb => ⟨below_cell hb d0, below_cell hb d1⟩⟩
theorem RegD.atA {w : World} {x : L RegD} (h : LOk w 3 RegD.cells x) {i : Nat} (hi : i < x.l.length) :
    ∃ g o, x.A = some ⟨g, o, none⟩ ∧ ∀ w', Below w.heap.size w w' → w'.cell? ⟨g, o + i * 3, none⟩ = some (.string x.l[i].name) ∧ w'.cell? ⟨g, o + i * 3 + 1, none⟩ = some (.int .i64 x.l[i].width) ∧ w'.cell? ⟨g, o + i * 3 + 2, none⟩ = some (.int .i64 x.l[i].size) := by
  obtain ⟨g, o, e, d0, d1, d2⟩ := RegD.at h hi
  exact ⟨g, o, e, fun w' hb => ⟨below_cell hb d0, below_cell hb d1, below_cell hb d2⟩⟩
theorem ActD.atA {w : World} {x : L ActD} (h : LOk w 3 ActD.cells x) {i : Nat} (hi : i < x.l.length) :
    ∃ g o, x.A = some ⟨g, o, none⟩ ∧ ∀ w', Below w.heap.size w w' → w'.cell? ⟨g, o + i * 3, none⟩ = some (.string x.l[i].name) ∧ w'.cell? ⟨g, o + i * 3 + 1, none⟩ = some (.slice x.l[i].params.A x.l[i].params.l.length x.l[i].params.c) ∧ w'.cell? ⟨g, o + i * 3 + 2, none⟩ = some (.slice x.l[i].body.A x.l[i].body.l.length x.l[i].body.c) := by
  obtain ⟨g, o, e, d0, d1, d2⟩ := ActD.at h hi
  exact ⟨g, o, e, fun w' hb => ⟨below_cell hb d0, below_cell hb d1, below_cell hb d2⟩⟩
theorem KeyD.atA {w : World} {x : L KeyD} (h : LOk w 3 KeyD.cells x) {i : Nat} (hi : i < x.l.length) :
    ∃ g o, x.A = some ⟨g, o, none⟩ ∧ ∀ w', Below w.heap.size w w' → w'.cell? ⟨g, o + i * 3, none⟩ = some (.int .i64 x.l[i].h) ∧ w'.cell? ⟨g, o + i * 3 + 1, none⟩ = some (.int .i64 x.l[i].f) ∧ w'.cell? ⟨g, o + i * 3 + 2, none⟩ = some (.int .i64 x.l[i].kind) := by
  obtain ⟨g, o, e, d0, d1, d2⟩ := KeyD.at h hi
  exact ⟨g, o, e, fun w' hb => ⟨below_cell hb d0, below_cell hb d1, below_cell hb d2⟩⟩
theorem TabD.atA {w : World} {x : L TabD} (h : LOk w 6 TabD.cells x) {i : Nat} (hi : i < x.l.length) :
    ∃ g o, x.A = some ⟨g, o, none⟩ ∧ ∀ w', Below w.heap.size w w' → w'.cell? ⟨g, o + i * 6, none⟩ = some (.string x.l[i].name) ∧ w'.cell? ⟨g, o + i * 6 + 1, none⟩ = some (.slice x.l[i].keys.A x.l[i].keys.l.length x.l[i].keys.c) ∧ w'.cell? ⟨g, o + i * 6 + 2, none⟩ = some (.slice x.l[i].acts.A x.l[i].acts.l.length x.l[i].acts.c) ∧ w'.cell? ⟨g, o + i * 6 + 3, none⟩ = some (.int .i64 x.l[i].defA) ∧ w'.cell? ⟨g, o + i * 6 + 4, none⟩ = some (.slice x.l[i].args.A x.l[i].args.l.length x.l[i].args.c) ∧ w'.cell? ⟨g, o + i * 6 + 5, none⟩ = some (.int .i64 x.l[i].size) := by
  obtain ⟨g, o, e, d0, d1, d2, d3, d4, d5⟩ := TabD.at h hi
  exact ⟨g, o, e, fun w' hb => ⟨below_cell hb d0, below_cell hb d1, below_cell hb d2, below_cell hb d3, below_cell hb d4, below_cell hb d5⟩⟩
theorem StateD.atA {w : World} {x : L StateD} (h : LOk w 7 StateD.cells x) {i : Nat} (hi : i < x.l.length) :
    ∃ g o, x.A = some ⟨g, o, none⟩ ∧ ∀ w', Below w.heap.size w w' → w'.cell? ⟨g, o + i * 7, none⟩ = some (.string x.l[i].name) ∧ w'.cell? ⟨g, o + i * 7 + 1, none⟩ = some (.slice x.l[i].extract.A x.l[i].extract.l.length x.l[i].extract.c) ∧ w'.cell? ⟨g, o + i * 7 + 2, none⟩ = some (.bool x.l[i].sel) ∧ w'.cell? ⟨g, o + i * 7 + 3, none⟩ = some (.int .i64 x.l[i].oh) ∧ w'.cell? ⟨g, o + i * 7 + 4, none⟩ = some (.int .i64 x.l[i].of) ∧ w'.cell? ⟨g, o + i * 7 + 5, none⟩ = some (.slice x.l[i].cases.A x.l[i].cases.l.length x.l[i].cases.c) ∧ w'.cell? ⟨g, o + i * 7 + 6, none⟩ = some (.int .i64 x.l[i].dflt) := by
  obtain ⟨g, o, e, d0, d1, d2, d3, d4, d5, d6⟩ := StateD.at h hi
  exact ⟨g, o, e, fun w' hb => ⟨below_cell hb d0, below_cell hb d1, below_cell hb d2, below_cell hb d3, below_cell hb d4, below_cell hb d5, below_cell hb d6⟩⟩
theorem StmtD.atA {w : World} {x : L StmtD} (h : LOk w 7 StmtD.cells x) {i : Nat} (hi : i < x.l.length) :
    ∃ g o, x.A = some ⟨g, o, none⟩ ∧ ∀ w', Below w.heap.size w w' → w'.cell? ⟨g, o + i * 7, none⟩ = some (.int .i64 x.l[i].kind) ∧ w'.cell? ⟨g, o + i * 7 + 1, none⟩ = some (.int .i64 x.l[i].dh) ∧ w'.cell? ⟨g, o + i * 7 + 2, none⟩ = some (.int .i64 x.l[i].df) ∧ w'.cell? ⟨g, o + i * 7 + 3, none⟩ = some (.int .i64 x.l[i].reg) ∧ w'.cell? ⟨g, o + i * 7 + 4, none⟩ = some (.int .i64 x.l[i].hdr) ∧ w'.cell? ⟨g, o + i * 7 + 5, none⟩ = some (.slice x.l[i].index.A x.l[i].index.l.length x.l[i].index.c) ∧ w'.cell? ⟨g, o + i * 7 + 6, none⟩ = some (.slice x.l[i].value.A x.l[i].value.l.length x.l[i].value.c) := by
  obtain ⟨g, o, e, d0, d1, d2, d3, d4, d5, d6⟩ := StmtD.at h hi
  exact ⟨g, o, e, fun w' hb => ⟨below_cell hb d0, below_cell hb d1, below_cell hb d2, below_cell hb d3, below_cell hb d4, below_cell hb d5, below_cell hb d6⟩⟩
theorem CtlD.atA {w : World} {x : L CtlD} (h : LOk w 5 CtlD.cells x) {i : Nat} (hi : i < x.l.length) :
    ∃ g o, x.A = some ⟨g, o, none⟩ ∧ ∀ w', Below w.heap.size w w' → w'.cell? ⟨g, o + i * 5, none⟩ = some (.int .i64 x.l[i].kind) ∧ w'.cell? ⟨g, o + i * 5 + 1, none⟩ = some (.int .i64 x.l[i].table) ∧ w'.cell? ⟨g, o + i * 5 + 2, none⟩ = some (.slice x.l[i].cond.A x.l[i].cond.l.length x.l[i].cond.c) ∧ w'.cell? ⟨g, o + i * 5 + 3, none⟩ = some (.slice x.l[i].th.A x.l[i].th.l.length x.l[i].th.c) ∧ w'.cell? ⟨g, o + i * 5 + 4, none⟩ = some (.slice x.l[i].el.A x.l[i].el.l.length x.l[i].el.c) := by
  obtain ⟨g, o, e, d0, d1, d2, d3, d4⟩ := CtlD.at h hi
  exact ⟨g, o, e, fun w' hb => ⟨below_cell hb d0, below_cell hb d1, below_cell hb d2, below_cell hb d3, below_cell hb d4⟩⟩
theorem ucell_atA {w : World} {x : L Int} (h : LOk w 1 ucell x) {i : Nat} (hi : i < x.l.length) : ∃ g o, x.A = some ⟨g, o, none⟩ ∧ ∀ w', Below w.heap.size w w' → w'.cell? ⟨g, o + i, none⟩ = some (.int .u32 x.l[i]) := by
  obtain ⟨g, o, e, d0⟩ := ucell_at h hi
  exact ⟨g, o, e, fun w' hb => below_cell hb d0⟩
theorem NodeD.allA {w : World} {x : L NodeD} (h : LOk w 3 NodeD.cells x) (h0 : 0 < x.l.length) :
    ∃ g o, x.A = some ⟨g, o, none⟩ ∧ ∀ w', Below w.heap.size w w' → ∀ i (hi : i < x.l.length), w'.cell? ⟨g, o + i * 3, none⟩ = some (.int .i64 x.l[i].op) ∧ w'.cell? ⟨g, o + i * 3 + 1, none⟩ = some (.int .i64 x.l[i].n) ∧ w'.cell? ⟨g, o + i * 3 + 2, none⟩ = some (.int .i64 x.l[i].w) := by
  rcases h.2 with e | ⟨g, o, e, _, hc⟩
  · rw [e] at h0; cases h0
  · exact ⟨g, o, e, fun w' hb i hi => ⟨below_cell hb (hc i hi 0 (by omega)), below_cell hb (hc i hi 1 (by omega)), below_cell hb (hc i hi 2 (by omega))⟩⟩
theorem FieldD.allA {w : World} {x : L FieldD} (h : LOk w 2 FieldD.cells x) (h0 : 0 < x.l.length) :
    ∃ g o, x.A = some ⟨g, o, none⟩ ∧ ∀ w', Below w.heap.size w w' → ∀ i (hi : i < x.l.length), w'.cell? ⟨g, o + i * 2, none⟩ = some (.string x.l[i].name) ∧ w'.cell? ⟨g, o + i * 2 + 1, none⟩ = some (.int .i64 x.l[i].width) := by
  rcases h.2 with e | ⟨g, o, e, _, hc⟩
  · rw [e] at h0; cases h0
  · exact ⟨g, o, e, fun w' hb i hi => ⟨below_cell hb (hc i hi 0 (by omega)), below_cell hb (hc i hi 1 (by omega))⟩⟩
theorem HeaderD.allA {w : World} {x : L HeaderD} (h : LOk w 2 HeaderD.cells x) (h0 : 0 < x.l.length) :
    ∃ g o, x.A = some ⟨g, o, none⟩ ∧ ∀ w', Below w.heap.size w w' → ∀ i (hi : i < x.l.length), w'.cell? ⟨g, o + i * 2, none⟩ = some (.string x.l[i].name) ∧ w'.cell? ⟨g, o + i * 2 + 1, none⟩ = some (.slice x.l[i].fields.A x.l[i].fields.l.length x.l[i].fields.c) := by
  rcases h.2 with e | ⟨g, o, e, _, hc⟩
  · rw [e] at h0; cases h0
  · exact ⟨g, o, e, fun w' hb i hi => ⟨below_cell hb (hc i hi 0 (by omega)), below_cell hb (hc i hi 1 (by omega))⟩⟩
theorem RegD.allA {w : World} {x : L RegD} (h : LOk w 3 RegD.cells x) (h0 : 0 < x.l.length) :
    ∃ g o, x.A = some ⟨g, o, none⟩ ∧ ∀ w', Below w.heap.size w w' → ∀ i (hi : i < x.l.length), w'.cell? ⟨g, o + i * 3, none⟩ = some (.string x.l[i].name) ∧ w'.cell? ⟨g, o + i * 3 + 1, none⟩ = some (.int .i64 x.l[i].width) ∧ w'.cell? ⟨g, o + i * 3 + 2, none⟩ = some (.int .i64 x.l[i].size) := by
  rcases h.2 with e | ⟨g, o, e, _, hc⟩
  · rw [e] at h0; cases h0
  · exact ⟨g, o, e, fun w' hb i hi => ⟨below_cell hb (hc i hi 0 (by omega)), below_cell hb (hc i hi 1 (by omega)), below_cell hb (hc i hi 2 (by omega))⟩⟩
theorem ActD.allA {w : World} {x : L ActD} (h : LOk w 3 ActD.cells x) (h0 : 0 < x.l.length) :
    ∃ g o, x.A = some ⟨g, o, none⟩ ∧ ∀ w', Below w.heap.size w w' → ∀ i (hi : i < x.l.length), w'.cell? ⟨g, o + i * 3, none⟩ = some (.string x.l[i].name) ∧ w'.cell? ⟨g, o + i * 3 + 1, none⟩ = some (.slice x.l[i].params.A x.l[i].params.l.length x.l[i].params.c) ∧ w'.cell? ⟨g, o + i * 3 + 2, none⟩ = some (.slice x.l[i].body.A x.l[i].body.l.length x.l[i].body.c) := by
  rcases h.2 with e | ⟨g, o, e, _, hc⟩
  · rw [e] at h0; cases h0
  · exact ⟨g, o, e, fun w' hb i hi => ⟨below_cell hb (hc i hi 0 (by omega)), below_cell hb (hc i hi 1 (by omega)), below_cell hb (hc i hi 2 (by omega))⟩⟩
theorem KeyD.allA {w : World} {x : L KeyD} (h : LOk w 3 KeyD.cells x) (h0 : 0 < x.l.length) :
    ∃ g o, x.A = some ⟨g, o, none⟩ ∧ ∀ w', Below w.heap.size w w' → ∀ i (hi : i < x.l.length), w'.cell? ⟨g, o + i * 3, none⟩ = some (.int .i64 x.l[i].h) ∧ w'.cell? ⟨g, o + i * 3 + 1, none⟩ = some (.int .i64 x.l[i].f) ∧ w'.cell? ⟨g, o + i * 3 + 2, none⟩ = some (.int .i64 x.l[i].kind) := by
  rcases h.2 with e | ⟨g, o, e, _, hc⟩
  · rw [e] at h0; cases h0
  · exact ⟨g, o, e, fun w' hb i hi => ⟨below_cell hb (hc i hi 0 (by omega)), below_cell hb (hc i hi 1 (by omega)), below_cell hb (hc i hi 2 (by omega))⟩⟩
theorem TabD.allA {w : World} {x : L TabD} (h : LOk w 6 TabD.cells x) (h0 : 0 < x.l.length) :
    ∃ g o, x.A = some ⟨g, o, none⟩ ∧ ∀ w', Below w.heap.size w w' → ∀ i (hi : i < x.l.length), w'.cell? ⟨g, o + i * 6, none⟩ = some (.string x.l[i].name) ∧ w'.cell? ⟨g, o + i * 6 + 1, none⟩ = some (.slice x.l[i].keys.A x.l[i].keys.l.length x.l[i].keys.c) ∧ w'.cell? ⟨g, o + i * 6 + 2, none⟩ = some (.slice x.l[i].acts.A x.l[i].acts.l.length x.l[i].acts.c) ∧ w'.cell? ⟨g, o + i * 6 + 3, none⟩ = some (.int .i64 x.l[i].defA) ∧ w'.cell? ⟨g, o + i * 6 + 4, none⟩ = some (.slice x.l[i].args.A x.l[i].args.l.length x.l[i].args.c) ∧ w'.cell? ⟨g, o + i * 6 + 5, none⟩ = some (.int .i64 x.l[i].size) := by
  rcases h.2 with e | ⟨g, o, e, _, hc⟩
  · rw [e] at h0; cases h0
  · exact ⟨g, o, e, fun w' hb i hi => ⟨below_cell hb (hc i hi 0 (by omega)), below_cell hb (hc i hi 1 (by omega)), below_cell hb (hc i hi 2 (by omega)), below_cell hb (hc i hi 3 (by omega)), below_cell hb (hc i hi 4 (by omega)), below_cell hb (hc i hi 5 (by omega))⟩⟩
theorem StateD.allA {w : World} {x : L StateD} (h : LOk w 7 StateD.cells x) (h0 : 0 < x.l.length) :
    ∃ g o, x.A = some ⟨g, o, none⟩ ∧ ∀ w', Below w.heap.size w w' → ∀ i (hi : i < x.l.length), w'.cell? ⟨g, o + i * 7, none⟩ = some (.string x.l[i].name) ∧ w'.cell? ⟨g, o + i * 7 + 1, none⟩ = some (.slice x.l[i].extract.A x.l[i].extract.l.length x.l[i].extract.c) ∧ w'.cell? ⟨g, o + i * 7 + 2, none⟩ = some (.bool x.l[i].sel) ∧ w'.cell? ⟨g, o + i * 7 + 3, none⟩ = some (.int .i64 x.l[i].oh) ∧ w'.cell? ⟨g, o + i * 7 + 4, none⟩ = some (.int .i64 x.l[i].of) ∧ w'.cell? ⟨g, o + i * 7 + 5, none⟩ = some (.slice x.l[i].cases.A x.l[i].cases.l.length x.l[i].cases.c) ∧ w'.cell? ⟨g, o + i * 7 + 6, none⟩ = some (.int .i64 x.l[i].dflt) := by
  rcases h.2 with e | ⟨g, o, e, _, hc⟩
  · rw [e] at h0; cases h0
  · exact ⟨g, o, e, fun w' hb i hi => ⟨below_cell hb (hc i hi 0 (by omega)), below_cell hb (hc i hi 1 (by omega)), below_cell hb (hc i hi 2 (by omega)), below_cell hb (hc i hi 3 (by omega)), below_cell hb (hc i hi 4 (by omega)), below_cell hb (hc i hi 5 (by omega)), below_cell hb (hc i hi 6 (by omega))⟩⟩
theorem StmtD.allA {w : World} {x : L StmtD} (h : LOk w 7 StmtD.cells x) (h0 : 0 < x.l.length) :
    ∃ g o, x.A = some ⟨g, o, none⟩ ∧ ∀ w', Below w.heap.size w w' → ∀ i (hi : i < x.l.length), w'.cell? ⟨g, o + i * 7, none⟩ = some (.int .i64 x.l[i].kind) ∧ w'.cell? ⟨g, o + i * 7 + 1, none⟩ = some (.int .i64 x.l[i].dh) ∧ w'.cell? ⟨g, o + i * 7 + 2, none⟩ = some (.int .i64 x.l[i].df) ∧ w'.cell? ⟨g, o + i * 7 + 3, none⟩ = some (.int .i64 x.l[i].reg) ∧ w'.cell? ⟨g, o + i * 7 + 4, none⟩ = some (.int .i64 x.l[i].hdr) ∧ w'.cell? ⟨g, o + i * 7 + 5, none⟩ = some (.slice x.l[i].index.A x.l[i].index.l.length x.l[i].index.c) ∧ w'.cell? ⟨g, o + i * 7 + 6, none⟩ = some (.slice x.l[i].value.A x.l[i].value.l.length x.l[i].value.c) := by
  rcases h.2 with e | ⟨g, o, e, _, hc⟩
  · rw [e] at h0; cases h0
  · exact ⟨g, o, e, fun w' hb i hi => ⟨below_cell hb (hc i hi 0 (by omega)), below_cell hb (hc i hi 1 (by omega)), below_cell hb (hc i hi 2 (by omega)), below_cell hb (hc i hi 3 (by omega)), below_cell hb (hc i hi 4 (by omega)), below_cell hb (hc i hi 5 (by omega)), below_cell hb (hc i hi 6 (by omega))⟩⟩
theorem CtlD.allA {w : World} {x : L CtlD} (h : LOk w 5 CtlD.cells x) (h0 : 0 < x.l.length) :
    ∃ g o, x.A = some ⟨g, o, none⟩ ∧ ∀ w', Below w.heap.size w w' → ∀ i (hi : i < x.l.length), w'.cell? ⟨g, o + i * 5, none⟩ = some (.int .i64 x.l[i].kind) ∧ w'.cell? ⟨g, o + i * 5 + 1, none⟩ = some (.int .i64 x.l[i].table) ∧ w'.cell? ⟨g, o + i * 5 + 2, none⟩ = some (.slice x.l[i].cond.A x.l[i].cond.l.length x.l[i].cond.c) ∧ w'.cell? ⟨g, o + i * 5 + 3, none⟩ = some (.slice x.l[i].th.A x.l[i].th.l.length x.l[i].th.c) ∧ w'.cell? ⟨g, o + i * 5 + 4, none⟩ = some (.slice x.l[i].el.A x.l[i].el.l.length x.l[i].el.c) := by
  rcases h.2 with e | ⟨g, o, e, _, hc⟩
  · rw [e] at h0; cases h0
  · exact ⟨g, o, e, fun w' hb i hi => ⟨below_cell hb (hc i hi 0 (by omega)), below_cell hb (hc i hi 1 (by omega)), below_cell hb (hc i hi 2 (by omega)), below_cell hb (hc i hi 3 (by omega)), below_cell hb (hc i hi 4 (by omega))⟩⟩
theorem icell_allA {w : World} {x : L Int} (h : LOk w 1 icell x) (h0 : 0 < x.l.length) : ∃ g o, x.A = some ⟨g, o, none⟩ ∧ ∀ w', Below w.heap.size w w' → ∀ i (hi : i < x.l.length), w'.cell? ⟨g, o + i, none⟩ = some (.int .i64 x.l[i]) := by
  rcases h.2 with e | ⟨g, o, e, _, hc⟩
  · rw [e] at h0; cases h0
  · exact ⟨g, o, e, fun w' hb i hi => below_cell hb (by have := hc i hi 0 (by omega); rw [Nat.mul_one] at this; exact this)⟩
structure HeaderP where
  name : ByteArray
  fields : List FieldD
def HeaderD.bare (h : HeaderD) : HeaderP := ⟨h.name, h.fields.l⟩
structure StmtP where
  kind : Int
  dh : Int
  df : Int
  reg : Int
  hdr : Int
  index : List NodeD
  value : List NodeD
def StmtD.bare (s : StmtD) : StmtP := ⟨s.kind, s.dh, s.df, s.reg, s.hdr, s.index.l, s.value.l⟩
structure ActP where
  name : ByteArray
  params : List FieldD
  body : List StmtP
def ActD.bare (a : ActD) : ActP := ⟨a.name, a.params.l, a.body.l.map StmtD.bare⟩
structure TabP where
  name : ByteArray
  keys : List KeyD
  acts : List Int
  defA : Int
  args : List Int
  size : Int
def TabD.bare (t : TabD) : TabP := ⟨t.name, t.keys.l, t.acts.l, t.defA, t.args.l, t.size⟩
structure StateP where
  name : ByteArray
  extract : List Int
  sel : Bool
  oh : Int
  of : Int
  cases : List CaseD
  dflt : Int
def StateD.bare (s : StateD) : StateP := ⟨s.name, s.extract.l, s.sel, s.oh, s.of, s.cases.l, s.dflt⟩
inductive CtlP where
  | mk (kind table : Int) (cond : List NodeD) (th el : List CtlP)
mutual
def CtlD.bare : CtlD → CtlP
  | .mk k t c th el _ _ _ _ => .mk k t c.l (CtlD.bares th) (CtlD.bares el)
def CtlD.bares : List CtlD → List CtlP
  | [] => []
  | x :: l => x.bare :: CtlD.bares l
end
structure ProgP where
  name : ByteArray
  headers : List HeaderP
  metadata : List FieldD
  registers : List RegD
  actions : List ActP
  tables : List TabP
  states : List StateP
  control : List CtlP
  deparser : List Int
def ProgD.bare (p : ProgD) : ProgP := ⟨p.name, p.headers.l.map HeaderD.bare, p.metadata.l, p.registers.l, p.actions.l.map ActD.bare, p.tables.l.map TabD.bare, p.states.l.map StateD.bare, p.control.l.map CtlD.bare, p.deparser.l⟩
def Own (w : World) (F : Nat → Prop) (t : TypeId) (k : Nat) {α : Type} (cells : α → List Value) (x : L α) : Prop := w.ownsRow 0 t k x.v x.l.length (x.l.flatMap cells) ∧ ∀ g, x.v.ownBlock = some g → F g
theorem ownsRow_zero {w : World} {B : Nat} {t : TypeId} {k : Nat} {v : Value} {n : Nat} {xs : List Value} (h : w.ownsRow B t k v n xs) : w.ownsRow 0 t k v n xs := by
  refine ⟨h.1, ?_⟩
  rcases h.2 with h0 | ⟨g, cap, cur, e, hbg, hr⟩
  · exact .inl h0
  · exact .inr ⟨g, cap, cur, e, Nat.zero_le _, hr⟩
def Moves (F : Nat → Prop) (w : World) (F' : Nat → Prop) (w' : World) : Prop := ∀ g, g < w.heap.size → F g → F' g ∧ w'.heap[g]? = w.heap[g]?
theorem Moves.below {F : Nat → Prop} {w w' : World} {C : Nat} (hb : Below C w w') (hC : w.heap.size ≤ C) : Moves F w F w' := fun g hg hF => ⟨hF, hb.block g (Nat.lt_of_lt_of_le hg hC)⟩
theorem Moves.mono {F F' : Nat → Prop} {w : World} (h : ∀ g, g < w.heap.size → F g → F' g) : Moves F w F' w := fun g hg hF => ⟨h g hg hF, rfl⟩
theorem Moves.set {F : Nat → Prop} (w : World) (p : Addr) (v : Value) (hF : ∀ g, F g → g ≠ p.block) : Moves F w F (w.setCell p v) := fun g _ h1 => ⟨h1, Below.heap_setCell w p v g (hF g h1)⟩
theorem Moves.trans {F F' F'' : Nat → Prop} {w w' w'' : World} (h : Moves F w F' w') (h2 : Moves F' w' F'' w'') (hs : w.heap.size ≤ w'.heap.size) : Moves F w F'' w'' := fun g hg hF =>
  ⟨(h2 g (Nat.lt_of_lt_of_le hg hs) (h g hg hF).1).1, (h2 g (Nat.lt_of_lt_of_le hg hs) (h g hg hF).1).2.trans (h g hg hF).2⟩
theorem Own.ok {w : World} {F : Nat → Prop} {t : TypeId} {k : Nat} {α : Type} {cells : α → List Value} {x : L α} (hk : ∀ u, (cells u).length = k) (h : Own w F t k cells x) : LOk w k cells x := by
  obtain ⟨l, A, c⟩ := x
  obtain ⟨A', c', e, _, ho, _⟩ := own_list (l := l) hk h.1
  cases e
  exact ho
theorem own_lt {w : World} {B : Nat} {t : TypeId} {k : Nat} {v : Value} {n : Nat} {xs : List Value} (h : w.ownsRow B t k v n xs) : ∀ g, v.ownBlock = some g → B ≤ g ∧ g < w.heap.size := by
  intro g hg
  rcases h.2 with ⟨e2, _⟩ | ⟨g', cap, cur, e2, hb, hh, _⟩
  · rw [e2] at hg; cases hg
  · rw [e2] at hg
    simp only [Value.ownBlock, Option.some.injEq] at hg
    subst hg
    exact ⟨hb, (Array.getElem?_eq_some_iff.1 hh).1⟩
theorem Own.of {w : World} {B : Nat} {t : TypeId} {k : Nat} {α : Type} {cells : α → List Value} {l : List α} {v : Value} (hk : ∀ u, (cells u).length = k) (h : w.ownsRow B t k v l.length (l.flatMap cells)) : ∃ A c, v = .slice A l.length c ∧ Own w (fun g => B ≤ g) t k cells ⟨l, A, c⟩ := by
  obtain ⟨A, c, e, _⟩ := own_list hk h
  subst e
  exact ⟨A, c, rfl, ownsRow_zero h, fun g hg => (own_lt h g hg).1⟩
theorem Own.nil (w : World) (F : Nat → Prop) (t : TypeId) (k : Nat) {α : Type} (cells : α → List Value) : Own w F t k cells ⟨[], none, 0⟩ := ⟨World.ownsRow_nil _ _ _ _, fun g h => by cases h⟩
structure HeaderOwn (w : World) (F : Nat → Prop) (h : HeaderD) : Prop where
  fields : Own w F 135 2 FieldD.cells h.fields
structure StmtOwn (w : World) (F : Nat → Prop) (s : StmtD) : Prop where
  index : Own w F 252 3 NodeD.cells s.index
  value : Own w F 252 3 NodeD.cells s.value
structure ActOwn (w : World) (F : Nat → Prop) (a : ActD) : Prop where
  params : Own w F 135 2 FieldD.cells a.params
  body : Own w F 167 7 StmtD.cells a.body
  stmts : ∀ s ∈ a.body.l, StmtOwn w F s
structure TabOwn (w : World) (F : Nat → Prop) (t : TabD) : Prop where
  keys : Own w F 231 3 KeyD.cells t.keys
  acts : Own w F 3 1 icell t.acts
  args : Own w F 83 1 ucell t.args
structure StateOwn (w : World) (F : Nat → Prop) (s : StateD) : Prop where
  extract : Own w F 3 1 icell s.extract
  cases : Own w F 245 3 CaseD.cells s.cases
mutual
def CtlOwn (w : World) (F : Nat → Prop) : CtlD → Prop
  | .mk _ _ cond th el tA eA tc ec => Own w F 252 3 NodeD.cells cond ∧ Own w F 169 5 CtlD.cells ⟨th, tA, tc⟩ ∧ Own w F 169 5 CtlD.cells ⟨el, eA, ec⟩ ∧ CtlsOwn w F th ∧ CtlsOwn w F el
def CtlsOwn (w : World) (F : Nat → Prop) : List CtlD → Prop
  | [] => True
  | x :: l => CtlOwn w F x ∧ CtlsOwn w F l
end
structure ProgOwn (w : World) (F : Nat → Prop) (p : ProgD) : Prop where
  headers : Own w F 96 2 HeaderD.cells p.headers
  hdr : ∀ h ∈ p.headers.l, HeaderOwn w F h
  metadata : Own w F 135 2 FieldD.cells p.metadata
  registers : Own w F 120 3 RegD.cells p.registers
  actions : Own w F 124 3 ActD.cells p.actions
  act : ∀ a ∈ p.actions.l, ActOwn w F a
  tables : Own w F 129 6 TabD.cells p.tables
  tab : ∀ t ∈ p.tables.l, TabOwn w F t
  states : Own w F 132 7 StateD.cells p.states
  state : ∀ s ∈ p.states.l, StateOwn w F s
  control : Own w F 169 5 CtlD.cells p.control
  ctl : ∀ x ∈ p.control.l, CtlOwn w F x
  deparser : Own w F 3 1 icell p.deparser
section
variable {w w' : World} {F F' : Nat → Prop}
end
theorem new_cells (w : World) (cs : List Value) (t : TypeId) : ∀ j v, cs[j]? = some v → (w.alloc (.cells cs.toArray t)).cell? ((⟨w.heap.size, 0, none⟩ : Addr).add j) = some v := by
  intro j v hj
  have h : j < cs.length := (List.getElem?_eq_some_iff.1 hj).1
  rw [List.getElem?_eq_getElem h] at hj
  cases hj
  rw [Addr.add_lit]
  simp [h]
theorem CtlsOk.of {w : World} : ∀ {l : List CtlD}, (∀ x ∈ l, CtlOk w x) → CtlsOk w l
  | [], _ => by rw [CtlsOk]; trivial
  | x :: l, h => by
    rw [CtlsOk]
    exact ⟨h x (List.mem_cons_self ..), CtlsOk.of fun y hy => h y (List.mem_cons_of_mem _ hy)⟩
mutual
theorem CtlOwn.ok {w : World} {F : Nat → Prop} : ∀ {x : CtlD}, CtlOwn w F x → CtlOk w x
  | .mk _ _ _ _ _ _ _ _ _, o => by
    rw [CtlOwn] at o
    rw [CtlOk]
    exact ⟨o.1.ok (fun _ => rfl), o.2.1.ok (fun _ => rfl), o.2.2.1.ok (fun _ => rfl), CtlsOwn.ok o.2.2.2.1, CtlsOwn.ok o.2.2.2.2⟩
theorem CtlsOwn.ok {w : World} {F : Nat → Prop} : ∀ {l : List CtlD}, CtlsOwn w F l → CtlsOk w l
  | [], _ => by rw [CtlsOk]; trivial
  | x :: l, o => by
    rw [CtlsOwn] at o
    rw [CtlsOk]
    exact ⟨CtlOwn.ok o.1, CtlsOwn.ok o.2⟩
end
theorem mem_bare {α β : Type} {f : α → β} {l l' : List α} (h : l'.map f = l.map f) {y : α} (hy : y ∈ l') : ∃ x ∈ l, f x = f y := by
  have := List.mem_map_of_mem (f := f) hy
  rw [h] at this
  obtain ⟨x, hx, e⟩ := List.mem_map.1 this
  exact ⟨x, hx, e⟩
theorem ProgOwn.ok {w w0 : World} {F : Nat → Prop} {p q : ProgD} (o : ProgOwn w F q) (h : ProgOk w0 p) (e : q.bare = p.bare) : ProgOk w q := by
  simp only [ProgD.bare, ProgP.mk.injEq] at e
  obtain ⟨e1, e2, e3, e4, e5, e6, e7, e8, e9⟩ := e
  refine ⟨by rw [e1]; exact h.name, o.headers.ok (fun _ => rfl), fun y hy => ?_, o.metadata.ok (fun _ => rfl), by rw [e3]; exact h.mnames, o.registers.ok (fun _ => rfl), by rw [e4]; exact h.rnames,
    o.actions.ok (fun _ => rfl), fun y hy => ?_, o.tables.ok (fun _ => rfl), fun y hy => ?_, o.states.ok (fun _ => rfl), fun y hy => ?_, o.control.ok (fun _ => rfl), CtlsOk.of fun x hx => CtlOwn.ok (o.ctl x hx), o.deparser.ok (fun _ => rfl)⟩
  · obtain ⟨x, hx, ex⟩ := mem_bare e2 hy
    simp only [HeaderD.bare, HeaderP.mk.injEq] at ex
    have := h.hdr x hx
    exact ⟨by rw [← ex.1]; exact this.name, (o.hdr y hy).fields.ok (fun _ => rfl), by rw [← ex.2]; exact this.names⟩
  · obtain ⟨x, hx, ex⟩ := mem_bare e5 hy
    simp only [ActD.bare, ActP.mk.injEq] at ex
    have := h.act x hx
    have ho := o.act y hy
    exact ⟨by rw [← ex.1]; exact this.name, ho.params.ok (fun _ => rfl), by rw [← ex.2.1]; exact this.pnames, ho.body.ok (fun _ => rfl), fun s hs => ⟨(ho.stmts s hs).index.ok (fun _ => rfl), (ho.stmts s hs).value.ok (fun _ => rfl)⟩⟩
  · obtain ⟨x, hx, ex⟩ := mem_bare e6 hy
    simp only [TabD.bare, TabP.mk.injEq] at ex
    have := h.tab x hx
    have ho := o.tab y hy
    exact ⟨by rw [← ex.1]; exact this.name, ho.keys.ok (fun _ => rfl), ho.acts.ok (fun _ => rfl), ho.args.ok (fun _ => rfl)⟩
  · obtain ⟨x, hx, ex⟩ := mem_bare e7 hy
    simp only [StateD.bare, StateP.mk.injEq] at ex
    have := h.state x hx
    have ho := o.state y hy
    exact ⟨by rw [← ex.1]; exact this.name, ho.extract.ok (fun _ => rfl), ho.cases.ok (fun _ => rfl)⟩
end Go.Proofs.YtbfjknidinkafaaGreat
