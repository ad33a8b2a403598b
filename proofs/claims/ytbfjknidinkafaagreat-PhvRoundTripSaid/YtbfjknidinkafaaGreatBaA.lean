/- Programs without the places of their lists, and lists that lie in memory of a call's own. No condition. -/
import Derived.Test.YtbfjknidinkafaaGreatOwnL
import Derived.Test.YtbfjknidinkafaaGreatCkK
namespace Go.Proofs.YtbfjknidinkafaaGreat
open Go.RowKit

structure HeaderP where
  name : ByteArray
  fields : List FieldD
def HeaderD.bare (h : HeaderD) : HeaderP := ⟨h.name, h.fields.l⟩
structure StmtP where
  kind : Int
  dh : Int
  df : Int
  reg : Int
  hdr : Int
  index : List NodeD
  value : List NodeD
def StmtD.bare (s : StmtD) : StmtP := ⟨s.kind, s.dh, s.df, s.reg, s.hdr, s.index.l, s.value.l⟩
structure ActP where
  name : ByteArray
  params : List FieldD
  body : List StmtP
def ActD.bare (a : ActD) : ActP := ⟨a.name, a.params.l, a.body.l.map StmtD.bare⟩
structure TabP where
  name : ByteArray
  keys : List KeyD
  acts : List Int
  defA : Int
  args : List Int
  size : Int
def TabD.bare (t : TabD) : TabP := ⟨t.name, t.keys.l, t.acts.l, t.defA, t.args.l, t.size⟩
structure StateP where
  name : ByteArray
  extract : List Int
  sel : Bool
  oh : Int
  of : Int
  cases : List CaseD
  dflt : Int
def StateD.bare (s : StateD) : StateP := ⟨s.name, s.extract.l, s.sel, s.oh, s.of, s.cases.l, s.dflt⟩
inductive CtlP where
  | mk (kind table : Int) (cond : List NodeD) (th el : List CtlP)
mutual
def CtlD.bare : CtlD → CtlP
  | .mk k t c th el _ _ _ _ => .mk k t c.l (CtlD.bares th) (CtlD.bares el)
def CtlD.bares : List CtlD → List CtlP
  | [] => []
  | x :: l => x.bare :: CtlD.bares l
end
theorem bares_map : ∀ l : List CtlD, CtlD.bares l = l.map CtlD.bare
  | [] => by rw [CtlD.bares]; rfl
  | x :: l => by rw [CtlD.bares, bares_map l]; rfl
theorem ctl_bare (x : CtlD) : x.bare = .mk x.kind x.table x.cond.l (x.th.l.map CtlD.bare) (x.el.l.map CtlD.bare) := by
  obtain ⟨k, t, c, th, el, tA, eA, tc, ec⟩ := x
  rw [CtlD.bare, bares_map, bares_map]; rfl
structure ProgP where
  name : ByteArray
  headers : List HeaderP
  metadata : List FieldD
  registers : List RegD
  actions : List ActP
  tables : List TabP
  states : List StateP
  control : List CtlP
  deparser : List Int
def ProgD.bare (p : ProgD) : ProgP := ⟨p.name, p.headers.l.map HeaderD.bare, p.metadata.l, p.registers.l, p.actions.l.map ActD.bare, p.tables.l.map TabD.bare, p.states.l.map StateD.bare, p.control.l.map CtlD.bare, p.deparser.l⟩

/-- the list lies in a row of the call's own, in a block of F -/
def Own (w : World) (F : Nat → Prop) (t : TypeId) (k : Nat) {α : Type} (cells : α → List Value) (x : L α) : Prop := w.ownsRow 0 t k x.v x.l.length (x.l.flatMap cells) ∧ ∀ g, x.v.ownBlock = some g → F g
theorem ownsRow_zero {w : World} {B : Nat} {t : TypeId} {k : Nat} {v : Value} {n : Nat} {xs : List Value} (h : w.ownsRow B t k v n xs) : w.ownsRow 0 t k v n xs := by
  refine ⟨h.1, ?_⟩
  rcases h.2 with h0 | ⟨g, cap, cur, e, hbg, hr⟩
  · exact .inl h0
  · exact .inr ⟨g, cap, cur, e, Nat.zero_le _, hr⟩
/-- the blocks of F lie in w' as in w, and are blocks of F' -/
def Moves (F : Nat → Prop) (w : World) (F' : Nat → Prop) (w' : World) : Prop := ∀ g, g < w.heap.size → F g → F' g ∧ w'.heap[g]? = w.heap[g]?
theorem Own.moves {w w' : World} {F F' : Nat → Prop} {t : TypeId} {k : Nat} {α : Type} {cells : α → List Value} {x : L α} (h : Own w F t k cells x) (hk : Moves F w F' w') : Own w' F' t k cells x := by
  rcases h.1.2 with h0 | ⟨g, cap, cur, e, hbg, hg, hr⟩
  · exact ⟨⟨h.1.1, .inl h0⟩, fun g hg => by rw [h0.1] at hg; cases hg⟩
  · have hlt := (Array.getElem?_eq_some_iff.1 hg).1
    obtain ⟨h1, h2⟩ := hk g hlt (h.2 g (by rw [e]; rfl))
    refine ⟨⟨h.1.1, .inr ⟨g, cap, cur, e, hbg, h2.trans hg, hr⟩⟩, fun g' hg' => ?_⟩
    rw [e] at hg'
    simp only [Value.ownBlock, Option.some.injEq] at hg'
    subst hg'
    exact h1
theorem Moves.below {F : Nat → Prop} {w w' : World} {C : Nat} (hb : Below C w w') (hC : w.heap.size ≤ C) : Moves F w F w' := fun g hg hF => ⟨hF, hb.block g (Nat.lt_of_lt_of_le hg hC)⟩
theorem Moves.mono {F F' : Nat → Prop} {w : World} (h : ∀ g, g < w.heap.size → F g → F' g) : Moves F w F' w := fun g hg hF => ⟨h g hg hF, rfl⟩
theorem Moves.set {F : Nat → Prop} (w : World) (p : Addr) (v : Value) (hF : ∀ g, F g → g ≠ p.block) : Moves F w F (w.setCell p v) := fun g _ h1 => ⟨h1, Below.heap_setCell w p v g (hF g h1)⟩
theorem Moves.trans {F F' F'' : Nat → Prop} {w w' w'' : World} (h : Moves F w F' w') (h2 : Moves F' w' F'' w'') (hs : w.heap.size ≤ w'.heap.size) : Moves F w F'' w'' := fun g hg hF =>
  ⟨(h2 g (Nat.lt_of_lt_of_le hg hs) (h g hg hF).1).1, (h2 g (Nat.lt_of_lt_of_le hg hs) (h g hg hF).1).2.trans (h g hg hF).2⟩
theorem Own.ok {w : World} {F : Nat → Prop} {t : TypeId} {k : Nat} {α : Type} {cells : α → List Value} {x : L α} (hk : ∀ u, (cells u).length = k) (h : Own w F t k cells x) : LOk w k cells x := by
  obtain ⟨l, A, c⟩ := x
  obtain ⟨A', c', e, _, ho, _⟩ := own_list (l := l) hk h.1
  cases e
  exact ho
theorem own_lt {w : World} {B : Nat} {t : TypeId} {k : Nat} {v : Value} {n : Nat} {xs : List Value} (h : w.ownsRow B t k v n xs) : ∀ g, v.ownBlock = some g → B ≤ g ∧ g < w.heap.size := by
  intro g hg
  rcases h.2 with ⟨e2, _⟩ | ⟨g', cap, cur, e2, hb, hh, _⟩
  · rw [e2] at hg; cases hg
  · rw [e2] at hg
    simp only [Value.ownBlock, Option.some.injEq] at hg
    subst hg
    exact ⟨hb, (Array.getElem?_eq_some_iff.1 hh).1⟩

theorem Own.of {w : World} {B : Nat} {t : TypeId} {k : Nat} {α : Type} {cells : α → List Value} {l : List α} {v : Value} (hk : ∀ u, (cells u).length = k) (h : w.ownsRow B t k v l.length (l.flatMap cells)) : ∃ A c, v = .slice A l.length c ∧ Own w (fun g => B ≤ g) t k cells ⟨l, A, c⟩ := by
  obtain ⟨A, c, e, _⟩ := own_list hk h
  subst e
  exact ⟨A, c, rfl, ownsRow_zero h, fun g hg => (own_lt h g hg).1⟩
theorem Own.nil (w : World) (F : Nat → Prop) (t : TypeId) (k : Nat) {α : Type} (cells : α → List Value) : Own w F t k cells ⟨[], none, 0⟩ := ⟨World.ownsRow_nil _ _ _ _, fun g h => by cases h⟩
structure HeaderOwn (w : World) (F : Nat → Prop) (h : HeaderD) : Prop where
  fields : Own w F 135 2 FieldD.cells h.fields
structure StmtOwn (w : World) (F : Nat → Prop) (s : StmtD) : Prop where
  index : Own w F 252 3 NodeD.cells s.index
  value : Own w F 252 3 NodeD.cells s.value
structure ActOwn (w : World) (F : Nat → Prop) (a : ActD) : Prop where
  params : Own w F 135 2 FieldD.cells a.params
  body : Own w F 167 7 StmtD.cells a.body
  stmts : ∀ s ∈ a.body.l, StmtOwn w F s
structure TabOwn (w : World) (F : Nat → Prop) (t : TabD) : Prop where
  keys : Own w F 231 3 KeyD.cells t.keys
  acts : Own w F 3 1 icell t.acts
  args : Own w F 83 1 ucell t.args
structure StateOwn (w : World) (F : Nat → Prop) (s : StateD) : Prop where
  extract : Own w F 3 1 icell s.extract
  cases : Own w F 245 3 CaseD.cells s.cases
mutual
def CtlOwn (w : World) (F : Nat → Prop) : CtlD → Prop
  | .mk _ _ cond th el tA eA tc ec => Own w F 252 3 NodeD.cells cond ∧ Own w F 169 5 CtlD.cells ⟨th, tA, tc⟩ ∧ Own w F 169 5 CtlD.cells ⟨el, eA, ec⟩ ∧ CtlsOwn w F th ∧ CtlsOwn w F el
def CtlsOwn (w : World) (F : Nat → Prop) : List CtlD → Prop
  | [] => True
  | x :: l => CtlOwn w F x ∧ CtlsOwn w F l
end
theorem ctlsOwn_iff {w : World} {F : Nat → Prop} : ∀ {l : List CtlD}, CtlsOwn w F l ↔ ∀ x ∈ l, CtlOwn w F x
  | [] => by simp [CtlsOwn]
  | x :: l => by rw [CtlsOwn, ctlsOwn_iff (l := l)]; simp
theorem ctlOwn_iff {w : World} {F : Nat → Prop} {x : CtlD} : CtlOwn w F x ↔ Own w F 252 3 NodeD.cells x.cond ∧ Own w F 169 5 CtlD.cells x.th ∧ Own w F 169 5 CtlD.cells x.el ∧ (∀ y ∈ x.th.l, CtlOwn w F y) ∧ ∀ y ∈ x.el.l, CtlOwn w F y := by
  obtain ⟨k, t, c, th, el, tA, eA, tc, ec⟩ := x
  rw [CtlOwn, ctlsOwn_iff, ctlsOwn_iff]; rfl
structure ProgOwn (w : World) (F : Nat → Prop) (p : ProgD) : Prop where
  headers : Own w F 96 2 HeaderD.cells p.headers
  hdr : ∀ h ∈ p.headers.l, HeaderOwn w F h
  metadata : Own w F 135 2 FieldD.cells p.metadata
  registers : Own w F 120 3 RegD.cells p.registers
  actions : Own w F 124 3 ActD.cells p.actions
  act : ∀ a ∈ p.actions.l, ActOwn w F a
  tables : Own w F 129 6 TabD.cells p.tables
  tab : ∀ t ∈ p.tables.l, TabOwn w F t
  states : Own w F 132 7 StateD.cells p.states
  state : ∀ s ∈ p.states.l, StateOwn w F s
  control : Own w F 169 5 CtlD.cells p.control
  ctl : ∀ x ∈ p.control.l, CtlOwn w F x
  deparser : Own w F 3 1 icell p.deparser

section
variable {w w' : World} {F F' : Nat → Prop}
theorem HeaderOwn.moves {h : HeaderD} (o : HeaderOwn w F h) (hk : Moves F w F' w') : HeaderOwn w' F' h := ⟨o.fields.moves hk⟩
theorem StmtOwn.moves {s : StmtD} (o : StmtOwn w F s) (hk : Moves F w F' w') : StmtOwn w' F' s := ⟨o.index.moves hk, o.value.moves hk⟩
theorem ActOwn.moves {a : ActD} (o : ActOwn w F a) (hk : Moves F w F' w') : ActOwn w' F' a := ⟨o.params.moves hk, o.body.moves hk, fun s hs => (o.stmts s hs).moves hk⟩
theorem TabOwn.moves {t : TabD} (o : TabOwn w F t) (hk : Moves F w F' w') : TabOwn w' F' t := ⟨o.keys.moves hk, o.acts.moves hk, o.args.moves hk⟩
theorem StateOwn.moves {s : StateD} (o : StateOwn w F s) (hk : Moves F w F' w') : StateOwn w' F' s := ⟨o.extract.moves hk, o.cases.moves hk⟩
mutual
theorem CtlOwn.moves (hk : Moves F w F' w') : ∀ {x : CtlD}, CtlOwn w F x → CtlOwn w' F' x
  | .mk _ _ _ _ _ _ _ _ _, o => by
    rw [CtlOwn] at o ⊢
    exact ⟨o.1.moves hk, o.2.1.moves hk, o.2.2.1.moves hk, CtlsOwn.moves hk o.2.2.2.1, CtlsOwn.moves hk o.2.2.2.2⟩
theorem CtlsOwn.moves (hk : Moves F w F' w') : ∀ {l : List CtlD}, CtlsOwn w F l → CtlsOwn w' F' l
  | [], _ => by rw [CtlsOwn]; trivial
  | x :: l, o => by
    rw [CtlsOwn] at o ⊢
    exact ⟨CtlOwn.moves hk o.1, CtlsOwn.moves hk o.2⟩
end
theorem ProgOwn.moves {p : ProgD} (o : ProgOwn w F p) (hk : Moves F w F' w') : ProgOwn w' F' p :=
  ⟨o.headers.moves hk, fun h hh => (o.hdr h hh).moves hk, o.metadata.moves hk, o.registers.moves hk, o.actions.moves hk, fun h hh => (o.act h hh).moves hk,
   o.tables.moves hk, fun h hh => (o.tab h hh).moves hk, o.states.moves hk, fun h hh => (o.state h hh).moves hk, o.control.moves hk, fun x hx => CtlOwn.moves hk (o.ctl x hx), o.deparser.moves hk⟩
end
/-- an element appended to a row of the call's own: what the elder elements own stays, what the new one owns stays -/
theorem elem_step {wr w1 w2 : World} {B : Nat} {t : TypeId} {size : Nat} {v v' : Value} {n : Nat} {xs : List Value} {o : Obj} (hown : wr.ownsRow B t size v n xs) (hb : Below wr.heap.size wr w1) (hB : B ≤ wr.heap.size)
    (hg : (w1.alloc o).grownBy w2 v.ownBlock) (hat : v'.ownBlock = v.ownBlock ∨ v'.ownBlock = some (w1.heap.size + 1)) :
    Moves (fun g => B ≤ g ∧ v.ownBlock ≠ some g) wr (fun g => B ≤ g ∧ v'.ownBlock ≠ some g) w2 ∧ Moves (fun g => wr.heap.size ≤ g) w1 (fun g => B ≤ g ∧ v'.ownBlock ≠ some g) w2 := by
  have hs := hb.size
  have hs2 : (w1.alloc o).heap.size = w1.heap.size + 1 := by simp
  have hal : ∀ g, g < w1.heap.size → v.ownBlock ≠ some g → w2.heap[g]? = w1.heap[g]? := fun g h1 h2 => (hg.block g (by omega) (fun e => h2 e.symm)).trans ((below1 w1 o).block g h1)
  have hne : ∀ g, g < w1.heap.size → v.ownBlock ≠ some g → v'.ownBlock ≠ some g := by
    intro g h1 h2 e
    rcases hat with h | h
    · exact h2 (h ▸ e)
    · rw [h] at e; cases e; omega
  constructor
  · rintro g h1 ⟨h2, h3⟩
    exact ⟨⟨h2, hne g (by omega) h3⟩, (hal g (by omega) h3).trans (hb.block g h1)⟩
  · intro g h1 h2
    have h3 : v.ownBlock ≠ some g := fun e => by have := (own_lt hown g e).2; omega
    exact ⟨⟨by omega, hne g h1 h3⟩, hal g h1 h3⟩
theorem new_cells (w : World) (cs : List Value) (t : TypeId) : ∀ j v, cs[j]? = some v → (w.alloc (.cells cs.toArray t)).cell? ((⟨w.heap.size, 0, none⟩ : Addr).add j) = some v := by
  intro j v hj
  have h : j < cs.length := (List.getElem?_eq_some_iff.1 hj).1
  rw [List.getElem?_eq_getElem h] at hj
  cases hj
  rw [Addr.add_lit]
  simp [h]
theorem CtlsOk.of {w : World} : ∀ {l : List CtlD}, (∀ x ∈ l, CtlOk w x) → CtlsOk w l
  | [], _ => by rw [CtlsOk]; trivial
  | x :: l, h => by
    rw [CtlsOk]
    exact ⟨h x (List.mem_cons_self ..), CtlsOk.of fun y hy => h y (List.mem_cons_of_mem _ hy)⟩
mutual
theorem CtlOwn.ok {w : World} {F : Nat → Prop} : ∀ {x : CtlD}, CtlOwn w F x → CtlOk w x
  | .mk _ _ _ _ _ _ _ _ _, o => by
    rw [CtlOwn] at o
    rw [CtlOk]
    exact ⟨o.1.ok (fun _ => rfl), o.2.1.ok (fun _ => rfl), o.2.2.1.ok (fun _ => rfl), CtlsOwn.ok o.2.2.2.1, CtlsOwn.ok o.2.2.2.2⟩
theorem CtlsOwn.ok {w : World} {F : Nat → Prop} : ∀ {l : List CtlD}, CtlsOwn w F l → CtlsOk w l
  | [], _ => by rw [CtlsOk]; trivial
  | x :: l, o => by
    rw [CtlsOwn] at o
    rw [CtlsOk]
    exact ⟨CtlOwn.ok o.1, CtlsOwn.ok o.2⟩
end
theorem mem_bare {α β : Type} {f : α → β} {l l' : List α} (h : l'.map f = l.map f) {y : α} (hy : y ∈ l') : ∃ x ∈ l, f x = f y := by
  have := List.mem_map_of_mem (f := f) hy
  rw [h] at this
  obtain ⟨x, hx, e⟩ := List.mem_map.1 this
  exact ⟨x, hx, e⟩
/-- a program of the call's own, with the contents of one that lies in memory, lies in memory -/
theorem ProgOwn.ok {w w0 : World} {F : Nat → Prop} {p q : ProgD} (o : ProgOwn w F q) (h : ProgOk w0 p) (e : q.bare = p.bare) : ProgOk w q := by
  simp only [ProgD.bare, ProgP.mk.injEq] at e
  obtain ⟨e1, e2, e3, e4, e5, e6, e7, e8, e9⟩ := e
  refine ⟨by rw [e1]; exact h.name, o.headers.ok (fun _ => rfl), fun y hy => ?_, o.metadata.ok (fun _ => rfl), by rw [e3]; exact h.mnames, o.registers.ok (fun _ => rfl), by rw [e4]; exact h.rnames,
    o.actions.ok (fun _ => rfl), fun y hy => ?_, o.tables.ok (fun _ => rfl), fun y hy => ?_, o.states.ok (fun _ => rfl), fun y hy => ?_, o.control.ok (fun _ => rfl), CtlsOk.of fun x hx => CtlOwn.ok (o.ctl x hx), o.deparser.ok (fun _ => rfl)⟩
  · obtain ⟨x, hx, ex⟩ := mem_bare e2 hy
    simp only [HeaderD.bare, HeaderP.mk.injEq] at ex
    have := h.hdr x hx
    exact ⟨by rw [← ex.1]; exact this.name, (o.hdr y hy).fields.ok (fun _ => rfl), by rw [← ex.2]; exact this.names⟩
  · obtain ⟨x, hx, ex⟩ := mem_bare e5 hy
    simp only [ActD.bare, ActP.mk.injEq] at ex
    have := h.act x hx
    have ho := o.act y hy
    exact ⟨by rw [← ex.1]; exact this.name, ho.params.ok (fun _ => rfl), by rw [← ex.2.1]; exact this.pnames, ho.body.ok (fun _ => rfl), fun s hs => ⟨(ho.stmts s hs).index.ok (fun _ => rfl), (ho.stmts s hs).value.ok (fun _ => rfl)⟩⟩
  · obtain ⟨x, hx, ex⟩ := mem_bare e6 hy
    simp only [TabD.bare, TabP.mk.injEq] at ex
    have := h.tab x hx
    have ho := o.tab y hy
    exact ⟨by rw [← ex.1]; exact this.name, ho.keys.ok (fun _ => rfl), ho.acts.ok (fun _ => rfl), ho.args.ok (fun _ => rfl)⟩
  · obtain ⟨x, hx, ex⟩ := mem_bare e7 hy
    simp only [StateD.bare, StateP.mk.injEq] at ex
    have := h.state x hx
    have ho := o.state y hy
    exact ⟨by rw [← ex.1]; exact this.name, ho.extract.ok (fun _ => rfl), ho.cases.ok (fun _ => rfl)⟩
end Go.Proofs.YtbfjknidinkafaaGreat

