/- Rows of the call's own, of lists: a list appended, a row read as a list. Programs without the places of their lists, and lists that lie in memory of a call's own. No condition. The walks of slices.Clone at the element types of a program. No condition but that the list lies in memory, with at most a hundred elements. The walks of slices.Equal at the element types of a program. No condition but that the lists lie in memory. -/
import Derived.Test.YtgfbikknkcaneaaGreatRep
import Derived.Laws.AppendOwnNone
import Derived.RowKit3
import Derived.Test.YtgfbikknkcaneaaGreatCkK
import Derived.Lib.SliceRun
import Derived.Laws.StructEq
import Derived.BigQuiet
namespace Go.Proofs.YtgfbikknkcaneaaGreat
open Go.RowKit

theorem flat_get {α : Type} (cells : α → List Value) (k : Nat) (hk : ∀ u, (cells u).length = k) : ∀ (l : List α) (i : Nat) (hi : i < l.length) (j : Nat), j < k → (l.flatMap cells)[i * k + j]? = (cells l[i])[j]?
  | [], i, hi, _, _ => by simp at hi
  | x :: l, 0, _, j, hj => by
    rw [List.flatMap_cons, List.getElem?_append_left (by rw [hk]; omega), Nat.zero_mul, Nat.zero_add]; rfl
  | x :: l, i + 1, hi, j, hj => by
    rw [List.flatMap_cons, List.getElem?_append_right (by rw [hk, Nat.succ_mul]; omega), hk, Nat.succ_mul, show i * k + k + j - k = i * k + j by omega,
      flat_get cells k hk l i (by simpa using hi) j hj]
    rfl
theorem flat_len {α : Type} (cells : α → List Value) (k : Nat) (hk : ∀ u, (cells u).length = k) : ∀ (l : List α), (l.flatMap cells).length = l.length * k
  | [] => by simp
  | x :: l => by rw [List.flatMap_cons, List.length_append, hk, flat_len cells k hk l, List.length_cons, Nat.succ_mul]; omega
theorem flat_of {α : Type} (cells : α → List Value) (k : Nat) (hk : ∀ u, (cells u).length = k) (l : List α) (m : Nat) (u : Value) (h : (l.flatMap cells)[m]? = some u) : ∃ i, ∃ hi : i < l.length, ∃ j, j < k ∧ m = i * k + j ∧ (cells l[i])[j]? = some u := by
  have hm : m < l.length * k := by rw [← flat_len cells k hk]; exact (List.getElem?_eq_some_iff.1 h).1
  have hk0 : 0 < k := by rcases Nat.eq_zero_or_pos k with h0 | h0; (· rw [h0] at hm; omega); exact h0
  have hi : m / k < l.length := (Nat.div_lt_iff_lt_mul hk0).2 hm
  have hj : m % k < k := Nat.mod_lt _ hk0
  have e : m = m / k * k + m % k := by rw [Nat.mul_comm]; exact (Nat.div_add_mod m k).symm
  refine ⟨m / k, hi, m % k, hj, e, ?_⟩
  rw [← flat_get cells k hk l (m / k) hi (m % k) hj, ← e, h]

/-- a list in memory, appended to a row of the call's own -/
theorem wpList_append_L {P : Program} {w : World} {ops : Array Oper} {rest : List Oper} {o : Oper} {a : Act} {Q : Exit → Act → World → Prop} (hgd : o.guard = none) (s x : Operand) (t : TypeId)
    (ho : o.op = .call { callee := .builtin .append, args := #[s, x], argTypes := #[t, t] })
    (base : Nat) (e : TypeId) (i : TypeInfo) (z : Value) (size bytes : Nat) (ht : P.underlying t = some (.slice e)) (hi : P.info? e = some i) (hz : i.zero = some z)
    (hsize : i.size = size) (hby : i.bytes = bytes) (hzs : z.cells.size = size) (hsz : 0 < size)
    (v : Value) (n : Nat) (xs : List Value) (hs : a.eval s = v) (hown : w.ownsRow base e size v n xs)
    {α : Type} {cells : α → List Value} (y : L α) (hx : a.eval x = y.v) (hy : LOk w size cells y) (hnil : y.A = none → y.c = 0) (hk : ∀ u, (cells u).length = size) (h1 : ∀ u, ∀ c ∈ cells u, c.oneCell' = true)
    (h63 : n + y.l.length ≤ maxLen) (hbytes : (n + y.l.length) * bytes ≤ 140737488355328) (hbase : base ≤ w.heap.size)
    (h : ∀ v' w', w'.ownsRow base e size v' (n + y.l.length) (xs ++ y.l.flatMap cells) → w.grownBy w' v.ownBlock → wpList P ops Q rest (a.put o.dst v') w') : wpList P ops Q (o :: rest) a w := by
  obtain ⟨l, A, c⟩ := y
  cases A with
  | none =>
    have hl : l = [] := by
      rcases hy.2 with h0 | ⟨g, o, e, _⟩
      · exact h0
      · cases e
    subst hl
    obtain rfl : c = 0 := hnil rfl
    refine wpList_append_own_none hgd s x t ho base e i size ht hi v n xs hs hown hx (h v w ?_ ⟨rfl, rfl, rfl, Nat.le_refl _, fun _ _ _ => rfl⟩)
    simpa using hown
  | some ad =>
    refine wpList_append_own w hgd s x t ho base e i z size bytes ht hi hz hsize hby hzs hsz v n xs hs hown ad l.length c (l.flatMap cells) hx (flat_len cells size hk l) (fun m u hu => ?_) (fun u hu => ?_) h63 hbytes hbase (fun v' w' h2 h3 _ => h v' w' h2 h3)
    · obtain ⟨i', hi', j, hj, rfl, hc⟩ := flat_of cells size hk l m u hu
      obtain ⟨g, o, e', _, hcc⟩ := hy.at (x := ⟨l, some ad, c⟩) hi'
      simp only [Option.some.injEq] at e'
      rw [e', Addr.add_lit, ← Nat.add_assoc, hcc j hj, hc]
    · obtain ⟨r, _, hr⟩ := List.mem_flatMap.1 hu
      exact h1 r u hr

/-- a row of the call's own, read as a list -/
theorem own_list {w : World} {base : Nat} {e : TypeId} {size : Nat} {v : Value} {α : Type} {cells : α → List Value} {l : List α} (hk : ∀ u, (cells u).length = size) (h : w.ownsRow base e size v l.length (l.flatMap cells)) :
    ∃ A c, v = .slice A l.length c ∧ l.length ≤ c ∧ LOk w size cells ⟨l, A, c⟩ ∧ (A = none → c = 0) ∧ (∀ ad, A = some ad → base ≤ ad.block ∧ ad.off = 0 ∧ ad.spot = none) := by
  have hc := @World.ownsRow.cells w base e size v l.length (l.flatMap cells) h
  rcases h.2 with ⟨rfl, h0⟩ | ⟨g, cap, cur, rfl, hb, hg, hle, hcm, hcs, htk⟩
  · have : l = [] := List.eq_nil_of_length_eq_zero h0
    subst this
    exact ⟨none, 0, rfl, Nat.le_refl _, ⟨Nat.zero_le _, .inl rfl⟩, fun _ => rfl, fun ad e => by cases e⟩
  · refine ⟨some ⟨g, 0, none⟩, cap, rfl, hle, ⟨Nat.le_trans hle hcm, .inr ⟨g, 0, rfl, ?_, fun i hi j hj => ?_⟩⟩, fun e => (by cases e), fun ad e => (by cases e; exact ⟨hb, rfl, rfl⟩)⟩
    · exact (Array.getElem?_eq_some_iff.1 hg).1
    · have hi2 : i * size + j < (l.flatMap cells).length := by
        rw [flat_len cells size hk]
        have : (i + 1) * size ≤ l.length * size := Nat.mul_le_mul_right _ hi
        rw [Nat.add_mul] at this; omega
      have := hc rfl (i * size + j) _ (List.getElem?_eq_getElem hi2)
      rw [Addr.add_lit] at this
      rw [Nat.add_assoc, this, ← flat_get cells size hk l i hi j hj, List.getElem?_eq_getElem hi2]
theorem own_empty (w : World) (base : Nat) (e : TypeId) (size : Nat) (hb : base ≤ w.heap.size) : (w.alloc (.cells #[] e)).ownsRow base e size (.slice (some ⟨w.heap.size, 0, none⟩) 0 0) 0 [] :=
  ⟨by simp, .inr ⟨w.heap.size, 0, #[], rfl, hb, heap_alloc_new w _, Nat.le_refl _, Nat.zero_le _, by simp, by simp⟩⟩
theorem ownsRow_below {w w' : World} {base : Nat} {e : TypeId} {size : Nat} {v : Value} {n : Nat} {xs : List Value} (h : w.ownsRow base e size v n xs) (hb : Below w.heap.size w w') : w'.ownsRow base e size v n xs := by
  refine ⟨h.1, ?_⟩
  rcases h.2 with h0 | ⟨g, cap, cur, rfl, hbg, hg, h1, h2, h3, h4⟩
  · exact .inl h0
  · exact .inr ⟨g, cap, cur, rfl, hbg, (hb.block g (Array.getElem?_eq_some_iff.1 hg).1).trans hg, h1, h2, h3, h4⟩
/-- behind an append to a row of the call's own: what lay below the base lies as it did -/
theorem grown_below {w w' : World} {base : Nat} {e : TypeId} {size : Nat} {v : Value} {n : Nat} {xs : List Value} (h : w.ownsRow base e size v n xs) (hg : w.grownBy w' v.ownBlock) (hb : base ≤ w.heap.size) : Below base w w' := by
  refine (Below.refl base w).grown hg hb (fun k hk => ?_)
  rcases h.2 with ⟨rfl, _⟩ | ⟨g, cap, cur, rfl, hbg, _⟩
  · cases hk
  · simp only [Value.ownBlock, Option.some.injEq] at hk; omega
end Go.Proofs.YtgfbikknkcaneaaGreat
namespace Go.Proofs.YtgfbikknkcaneaaGreat
open Go.RowKit

structure HeaderP where
  name : ByteArray
  fields : List FieldD
def HeaderD.bare (h : HeaderD) : HeaderP := ⟨h.name, h.fields.l⟩
structure StmtP where
  kind : Int
  dh : Int
  df : Int
  reg : Int
  hdr : Int
  index : List NodeD
  value : List NodeD
def StmtD.bare (s : StmtD) : StmtP := ⟨s.kind, s.dh, s.df, s.reg, s.hdr, s.index.l, s.value.l⟩
structure ActP where
  name : ByteArray
  params : List FieldD
  body : List StmtP
def ActD.bare (a : ActD) : ActP := ⟨a.name, a.params.l, a.body.l.map StmtD.bare⟩
structure TabP where
  name : ByteArray
  keys : List KeyD
  acts : List Int
  defA : Int
  args : List Int
  size : Int
def TabD.bare (t : TabD) : TabP := ⟨t.name, t.keys.l, t.acts.l, t.defA, t.args.l, t.size⟩
structure StateP where
  name : ByteArray
  extract : List Int
  sel : Bool
  oh : Int
  of : Int
  cases : List CaseD
  dflt : Int
def StateD.bare (s : StateD) : StateP := ⟨s.name, s.extract.l, s.sel, s.oh, s.of, s.cases.l, s.dflt⟩
inductive CtlP where
  | mk (kind table : Int) (cond : List NodeD) (th el : List CtlP)
mutual
def CtlD.bare : CtlD → CtlP
  | .mk k t c th el _ _ _ _ => .mk k t c.l (CtlD.bares th) (CtlD.bares el)
def CtlD.bares : List CtlD → List CtlP
  | [] => []
  | x :: l => x.bare :: CtlD.bares l
end
theorem bares_map : ∀ l : List CtlD, CtlD.bares l = l.map CtlD.bare
  | [] => by rw [CtlD.bares]; rfl
  | x :: l => by rw [CtlD.bares, bares_map l]; rfl
theorem ctl_bare (x : CtlD) : x.bare = .mk x.kind x.table x.cond.l (x.th.l.map CtlD.bare) (x.el.l.map CtlD.bare) := by
  obtain ⟨k, t, c, th, el, tA, eA, tc, ec⟩ := x
  rw [CtlD.bare, bares_map, bares_map]; rfl
structure ProgP where
  name : ByteArray
  headers : List HeaderP
  metadata : List FieldD
  registers : List RegD
  actions : List ActP
  tables : List TabP
  states : List StateP
  control : List CtlP
  deparser : List Int
def ProgD.bare (p : ProgD) : ProgP := ⟨p.name, p.headers.l.map HeaderD.bare, p.metadata.l, p.registers.l, p.actions.l.map ActD.bare, p.tables.l.map TabD.bare, p.states.l.map StateD.bare, p.control.l.map CtlD.bare, p.deparser.l⟩

/-- the list lies in a row of the call's own, in a block of F -/
def Own (w : World) (F : Nat → Prop) (t : TypeId) (k : Nat) {α : Type} (cells : α → List Value) (x : L α) : Prop := w.ownsRow 0 t k x.v x.l.length (x.l.flatMap cells) ∧ ∀ g, x.v.ownBlock = some g → F g
theorem ownsRow_zero {w : World} {B : Nat} {t : TypeId} {k : Nat} {v : Value} {n : Nat} {xs : List Value} (h : w.ownsRow B t k v n xs) : w.ownsRow 0 t k v n xs := by
  refine ⟨h.1, ?_⟩
  rcases h.2 with h0 | ⟨g, cap, cur, e, hbg, hr⟩
  · exact .inl h0
  · exact .inr ⟨g, cap, cur, e, Nat.zero_le _, hr⟩
/-- the blocks of F lie in w' as in w, and are blocks of F' -/
def Moves (F : Nat → Prop) (w : World) (F' : Nat → Prop) (w' : World) : Prop := ∀ g, g < w.heap.size → F g → F' g ∧ w'.heap[g]? = w.heap[g]?
theorem Own.moves {w w' : World} {F F' : Nat → Prop} {t : TypeId} {k : Nat} {α : Type} {cells : α → List Value} {x : L α} (h : Own w F t k cells x) (hk : Moves F w F' w') : Own w' F' t k cells x := by
  rcases h.1.2 with h0 | ⟨g, cap, cur, e, hbg, hg, hr⟩
  · exact ⟨⟨h.1.1, .inl h0⟩, fun g hg => by rw [h0.1] at hg; cases hg⟩
  · have hlt := (Array.getElem?_eq_some_iff.1 hg).1
    obtain ⟨h1, h2⟩ := hk g hlt (h.2 g (by rw [e]; rfl))
    refine ⟨⟨h.1.1, .inr ⟨g, cap, cur, e, hbg, h2.trans hg, hr⟩⟩, fun g' hg' => ?_⟩
    rw [e] at hg'
    simp only [Value.ownBlock, Option.some.injEq] at hg'
    subst hg'
    exact h1
theorem Moves.below {F : Nat → Prop} {w w' : World} {C : Nat} (hb : Below C w w') (hC : w.heap.size ≤ C) : Moves F w F w' := fun g hg hF => ⟨hF, hb.block g (Nat.lt_of_lt_of_le hg hC)⟩
theorem Moves.mono {F F' : Nat → Prop} {w : World} (h : ∀ g, g < w.heap.size → F g → F' g) : Moves F w F' w := fun g hg hF => ⟨h g hg hF, rfl⟩
theorem Moves.set {F : Nat → Prop} (w : World) (p : Addr) (v : Value) (hF : ∀ g, F g → g ≠ p.block) : Moves F w F (w.setCell p v) := fun g _ h1 => ⟨h1, Below.heap_setCell w p v g (hF g h1)⟩
theorem Moves.trans {F F' F'' : Nat → Prop} {w w' w'' : World} (h : Moves F w F' w') (h2 : Moves F' w' F'' w'') (hs : w.heap.size ≤ w'.heap.size) : Moves F w F'' w'' := fun g hg hF =>
  ⟨(h2 g (Nat.lt_of_lt_of_le hg hs) (h g hg hF).1).1, (h2 g (Nat.lt_of_lt_of_le hg hs) (h g hg hF).1).2.trans (h g hg hF).2⟩
theorem Own.ok {w : World} {F : Nat → Prop} {t : TypeId} {k : Nat} {α : Type} {cells : α → List Value} {x : L α} (hk : ∀ u, (cells u).length = k) (h : Own w F t k cells x) : LOk w k cells x := by
  obtain ⟨l, A, c⟩ := x
  obtain ⟨A', c', e, _, ho, _⟩ := own_list (l := l) hk h.1
  cases e
  exact ho
theorem own_lt {w : World} {B : Nat} {t : TypeId} {k : Nat} {v : Value} {n : Nat} {xs : List Value} (h : w.ownsRow B t k v n xs) : ∀ g, v.ownBlock = some g → B ≤ g ∧ g < w.heap.size := by
  intro g hg
  rcases h.2 with ⟨e2, _⟩ | ⟨g', cap, cur, e2, hb, hh, _⟩
  · rw [e2] at hg; cases hg
  · rw [e2] at hg
    simp only [Value.ownBlock, Option.some.injEq] at hg
    subst hg
    exact ⟨hb, (Array.getElem?_eq_some_iff.1 hh).1⟩

theorem Own.of {w : World} {B : Nat} {t : TypeId} {k : Nat} {α : Type} {cells : α → List Value} {l : List α} {v : Value} (hk : ∀ u, (cells u).length = k) (h : w.ownsRow B t k v l.length (l.flatMap cells)) : ∃ A c, v = .slice A l.length c ∧ Own w (fun g => B ≤ g) t k cells ⟨l, A, c⟩ := by
  obtain ⟨A, c, e, _⟩ := own_list hk h
  subst e
  exact ⟨A, c, rfl, ownsRow_zero h, fun g hg => (own_lt h g hg).1⟩
theorem Own.nil (w : World) (F : Nat → Prop) (t : TypeId) (k : Nat) {α : Type} (cells : α → List Value) : Own w F t k cells ⟨[], none, 0⟩ := ⟨World.ownsRow_nil _ _ _ _, fun g h => by cases h⟩
structure HeaderOwn (w : World) (F : Nat → Prop) (h : HeaderD) : Prop where
  fields : Own w F 63 2 FieldD.cells h.fields
structure StmtOwn (w : World) (F : Nat → Prop) (s : StmtD) : Prop where
  index : Own w F 131 3 NodeD.cells s.index
  value : Own w F 131 3 NodeD.cells s.value
structure ActOwn (w : World) (F : Nat → Prop) (a : ActD) : Prop where
  params : Own w F 63 2 FieldD.cells a.params
  body : Own w F 129 7 StmtD.cells a.body
  stmts : ∀ s ∈ a.body.l, StmtOwn w F s
structure TabOwn (w : World) (F : Nat → Prop) (t : TabD) : Prop where
  keys : Own w F 133 3 KeyD.cells t.keys
  acts : Own w F 3 1 icell t.acts
  args : Own w F 134 1 ucell t.args
structure StateOwn (w : World) (F : Nat → Prop) (s : StateD) : Prop where
  extract : Own w F 3 1 icell s.extract
  cases : Own w F 166 3 CaseD.cells s.cases
mutual
def CtlOwn (w : World) (F : Nat → Prop) : CtlD → Prop
  | .mk _ _ cond th el tA eA tc ec => Own w F 131 3 NodeD.cells cond ∧ Own w F 106 5 CtlD.cells ⟨th, tA, tc⟩ ∧ Own w F 106 5 CtlD.cells ⟨el, eA, ec⟩ ∧ CtlsOwn w F th ∧ CtlsOwn w F el
def CtlsOwn (w : World) (F : Nat → Prop) : List CtlD → Prop
  | [] => True
  | x :: l => CtlOwn w F x ∧ CtlsOwn w F l
end
theorem ctlsOwn_iff {w : World} {F : Nat → Prop} : ∀ {l : List CtlD}, CtlsOwn w F l ↔ ∀ x ∈ l, CtlOwn w F x
  | [] => by simp [CtlsOwn]
  | x :: l => by rw [CtlsOwn, ctlsOwn_iff (l := l)]; simp
theorem ctlOwn_iff {w : World} {F : Nat → Prop} {x : CtlD} : CtlOwn w F x ↔ Own w F 131 3 NodeD.cells x.cond ∧ Own w F 106 5 CtlD.cells x.th ∧ Own w F 106 5 CtlD.cells x.el ∧ (∀ y ∈ x.th.l, CtlOwn w F y) ∧ ∀ y ∈ x.el.l, CtlOwn w F y := by
  obtain ⟨k, t, c, th, el, tA, eA, tc, ec⟩ := x
  rw [CtlOwn, ctlsOwn_iff, ctlsOwn_iff]; rfl
structure ProgOwn (w : World) (F : Nat → Prop) (p : ProgD) : Prop where
  headers : Own w F 61 2 HeaderD.cells p.headers
  hdr : ∀ h ∈ p.headers.l, HeaderOwn w F h
  metadata : Own w F 63 2 FieldD.cells p.metadata
  registers : Own w F 65 3 RegD.cells p.registers
  actions : Own w F 68 3 ActD.cells p.actions
  act : ∀ a ∈ p.actions.l, ActOwn w F a
  tables : Own w F 52 6 TabD.cells p.tables
  tab : ∀ t ∈ p.tables.l, TabOwn w F t
  states : Own w F 73 7 StateD.cells p.states
  state : ∀ s ∈ p.states.l, StateOwn w F s
  control : Own w F 106 5 CtlD.cells p.control
  ctl : ∀ x ∈ p.control.l, CtlOwn w F x
  deparser : Own w F 3 1 icell p.deparser

section
variable {w w' : World} {F F' : Nat → Prop}
theorem HeaderOwn.moves {h : HeaderD} (o : HeaderOwn w F h) (hk : Moves F w F' w') : HeaderOwn w' F' h := ⟨o.fields.moves hk⟩
theorem StmtOwn.moves {s : StmtD} (o : StmtOwn w F s) (hk : Moves F w F' w') : StmtOwn w' F' s := ⟨o.index.moves hk, o.value.moves hk⟩
theorem ActOwn.moves {a : ActD} (o : ActOwn w F a) (hk : Moves F w F' w') : ActOwn w' F' a := ⟨o.params.moves hk, o.body.moves hk, fun s hs => (o.stmts s hs).moves hk⟩
theorem TabOwn.moves {t : TabD} (o : TabOwn w F t) (hk : Moves F w F' w') : TabOwn w' F' t := ⟨o.keys.moves hk, o.acts.moves hk, o.args.moves hk⟩
theorem StateOwn.moves {s : StateD} (o : StateOwn w F s) (hk : Moves F w F' w') : StateOwn w' F' s := ⟨o.extract.moves hk, o.cases.moves hk⟩
mutual
theorem CtlOwn.moves (hk : Moves F w F' w') : ∀ {x : CtlD}, CtlOwn w F x → CtlOwn w' F' x
  | .mk _ _ _ _ _ _ _ _ _, o => by
    rw [CtlOwn] at o ⊢
    exact ⟨o.1.moves hk, o.2.1.moves hk, o.2.2.1.moves hk, CtlsOwn.moves hk o.2.2.2.1, CtlsOwn.moves hk o.2.2.2.2⟩
theorem CtlsOwn.moves (hk : Moves F w F' w') : ∀ {l : List CtlD}, CtlsOwn w F l → CtlsOwn w' F' l
  | [], _ => by rw [CtlsOwn]; trivial
  | x :: l, o => by
    rw [CtlsOwn] at o ⊢
    exact ⟨CtlOwn.moves hk o.1, CtlsOwn.moves hk o.2⟩
end
theorem ProgOwn.moves {p : ProgD} (o : ProgOwn w F p) (hk : Moves F w F' w') : ProgOwn w' F' p :=
  ⟨o.headers.moves hk, fun h hh => (o.hdr h hh).moves hk, o.metadata.moves hk, o.registers.moves hk, o.actions.moves hk, fun h hh => (o.act h hh).moves hk,
   o.tables.moves hk, fun h hh => (o.tab h hh).moves hk, o.states.moves hk, fun h hh => (o.state h hh).moves hk, o.control.moves hk, fun x hx => CtlOwn.moves hk (o.ctl x hx), o.deparser.moves hk⟩
end
/-- an element appended to a row of the call's own: what the elder elements own stays, what the new one owns stays -/
theorem elem_step {wr w1 w2 : World} {B : Nat} {t : TypeId} {size : Nat} {v v' : Value} {n : Nat} {xs : List Value} {o : Obj} (hown : wr.ownsRow B t size v n xs) (hb : Below wr.heap.size wr w1) (hB : B ≤ wr.heap.size)
    (hg : (w1.alloc o).grownBy w2 v.ownBlock) (hat : v'.ownBlock = v.ownBlock ∨ v'.ownBlock = some (w1.heap.size + 1)) :
    Moves (fun g => B ≤ g ∧ v.ownBlock ≠ some g) wr (fun g => B ≤ g ∧ v'.ownBlock ≠ some g) w2 ∧ Moves (fun g => wr.heap.size ≤ g) w1 (fun g => B ≤ g ∧ v'.ownBlock ≠ some g) w2 := by
  have hs := hb.size
  have hs2 : (w1.alloc o).heap.size = w1.heap.size + 1 := by simp
  have hal : ∀ g, g < w1.heap.size → v.ownBlock ≠ some g → w2.heap[g]? = w1.heap[g]? := fun g h1 h2 => (hg.block g (by omega) (fun e => h2 e.symm)).trans ((below1 w1 o).block g h1)
  have hne : ∀ g, g < w1.heap.size → v.ownBlock ≠ some g → v'.ownBlock ≠ some g := by
    intro g h1 h2 e
    rcases hat with h | h
    · exact h2 (h ▸ e)
    · rw [h] at e; cases e; omega
  constructor
  · rintro g h1 ⟨h2, h3⟩
    exact ⟨⟨h2, hne g (by omega) h3⟩, (hal g (by omega) h3).trans (hb.block g h1)⟩
  · intro g h1 h2
    have h3 : v.ownBlock ≠ some g := fun e => by have := (own_lt hown g e).2; omega
    exact ⟨⟨by omega, hne g h1 h3⟩, hal g h1 h3⟩
theorem new_cells (w : World) (cs : List Value) (t : TypeId) : ∀ j v, cs[j]? = some v → (w.alloc (.cells cs.toArray t)).cell? ((⟨w.heap.size, 0, none⟩ : Addr).add j) = some v := by
  intro j v hj
  have h : j < cs.length := (List.getElem?_eq_some_iff.1 hj).1
  rw [List.getElem?_eq_getElem h] at hj
  cases hj
  rw [Addr.add_lit]
  simp [h]
theorem CtlsOk.of {w : World} : ∀ {l : List CtlD}, (∀ x ∈ l, CtlOk w x) → CtlsOk w l
  | [], _ => by rw [CtlsOk]; trivial
  | x :: l, h => by
    rw [CtlsOk]
    exact ⟨h x (List.mem_cons_self ..), CtlsOk.of fun y hy => h y (List.mem_cons_of_mem _ hy)⟩
mutual
theorem CtlOwn.ok {w : World} {F : Nat → Prop} : ∀ {x : CtlD}, CtlOwn w F x → CtlOk w x
  | .mk _ _ _ _ _ _ _ _ _, o => by
    rw [CtlOwn] at o
    rw [CtlOk]
    exact ⟨o.1.ok (fun _ => rfl), o.2.1.ok (fun _ => rfl), o.2.2.1.ok (fun _ => rfl), CtlsOwn.ok o.2.2.2.1, CtlsOwn.ok o.2.2.2.2⟩
theorem CtlsOwn.ok {w : World} {F : Nat → Prop} : ∀ {l : List CtlD}, CtlsOwn w F l → CtlsOk w l
  | [], _ => by rw [CtlsOk]; trivial
  | x :: l, o => by
    rw [CtlsOwn] at o
    rw [CtlsOk]
    exact ⟨CtlOwn.ok o.1, CtlsOwn.ok o.2⟩
end
theorem mem_bare {α β : Type} {f : α → β} {l l' : List α} (h : l'.map f = l.map f) {y : α} (hy : y ∈ l') : ∃ x ∈ l, f x = f y := by
  have := List.mem_map_of_mem (f := f) hy
  rw [h] at this
  obtain ⟨x, hx, e⟩ := List.mem_map.1 this
  exact ⟨x, hx, e⟩
/-- a program of the call's own, with the contents of one that lies in memory, lies in memory -/
theorem ProgOwn.ok {w w0 : World} {F : Nat → Prop} {p q : ProgD} (o : ProgOwn w F q) (h : ProgOk w0 p) (e : q.bare = p.bare) : ProgOk w q := by
  simp only [ProgD.bare, ProgP.mk.injEq] at e
  obtain ⟨e1, e2, e3, e4, e5, e6, e7, e8, e9⟩ := e
  refine ⟨by rw [e1]; exact h.name, o.headers.ok (fun _ => rfl), fun y hy => ?_, o.metadata.ok (fun _ => rfl), by rw [e3]; exact h.mnames, o.registers.ok (fun _ => rfl), by rw [e4]; exact h.rnames,
    o.actions.ok (fun _ => rfl), fun y hy => ?_, o.tables.ok (fun _ => rfl), fun y hy => ?_, o.states.ok (fun _ => rfl), fun y hy => ?_, o.control.ok (fun _ => rfl), CtlsOk.of fun x hx => CtlOwn.ok (o.ctl x hx), o.deparser.ok (fun _ => rfl)⟩
  · obtain ⟨x, hx, ex⟩ := mem_bare e2 hy
    simp only [HeaderD.bare, HeaderP.mk.injEq] at ex
    have := h.hdr x hx
    exact ⟨by rw [← ex.1]; exact this.name, (o.hdr y hy).fields.ok (fun _ => rfl), by rw [← ex.2]; exact this.names⟩
  · obtain ⟨x, hx, ex⟩ := mem_bare e5 hy
    simp only [ActD.bare, ActP.mk.injEq] at ex
    have := h.act x hx
    have ho := o.act y hy
    exact ⟨by rw [← ex.1]; exact this.name, ho.params.ok (fun _ => rfl), by rw [← ex.2.1]; exact this.pnames, ho.body.ok (fun _ => rfl), fun s hs => ⟨(ho.stmts s hs).index.ok (fun _ => rfl), (ho.stmts s hs).value.ok (fun _ => rfl)⟩⟩
  · obtain ⟨x, hx, ex⟩ := mem_bare e6 hy
    simp only [TabD.bare, TabP.mk.injEq] at ex
    have := h.tab x hx
    have ho := o.tab y hy
    exact ⟨by rw [← ex.1]; exact this.name, ho.keys.ok (fun _ => rfl), ho.acts.ok (fun _ => rfl), ho.args.ok (fun _ => rfl)⟩
  · obtain ⟨x, hx, ex⟩ := mem_bare e7 hy
    simp only [StateD.bare, StateP.mk.injEq] at ex
    have := h.state x hx
    have ho := o.state y hy
    exact ⟨by rw [← ex.1]; exact this.name, ho.extract.ok (fun _ => rfl), ho.cases.ok (fun _ => rfl)⟩
end Go.Proofs.YtgfbikknkcaneaaGreat
namespace Go.Proofs.YtgfbikknkcaneaaGreat
open Go.RowKit

theorem info_field : (Tryz.prog.info? 63).map (fun i => (i.zero, i.size, i.bytes)) = some (some (.agg #[.string ⟨#[]⟩, .int .i64 0]), 2, 24) := by kernel_rfl
theorem one_field : ∀ u, ∀ c ∈ FieldD.cells u, c.oneCell' = true := by
  intro u c hc
  simp [FieldD.cells] at hc; rcases hc with rfl | rfl <;> rfl
set_option maxRecDepth 100000 in
set_option maxHeartbeats 2000000 in
theorem clone_field (x : L FieldD) (w : World) (h : LOk w 2 FieldD.cells x) (hm : x.l.length ≤ 100) :
    Calls Tryz.prog 58 #[x.v] w fun e w' => ∃ A c, e = .returned (.slice A x.l.length c) ∧ Own w' (fun g => w.heap.size ≤ g) 63 2 FieldD.cells ⟨x.l, A, c⟩ ∧ Below w.heap.size w w' := by
  obtain ⟨l, A0, c0⟩ := x
  have HX := Lib.hid h
  clear h
  simp only [L.v] at *
  have q0 : ∀ (w : World) (a : Option Addr) (n c n' c' : Nat), (binOp .eql 23 (.slice a n c) (.slice none n' c')).run Tryz.prog w = .ok (.bool a.isNone) w := fun w a n c n' c' => Lib.run_eql_slice_nil w _ _ a n c n' c' Tryz.underlying23
  cases A0 with
  | none =>
    have hl : l = [] := by
      rcases HX.out.2 with h | ⟨g, o, e, _⟩
      · exact h
      · cases e
    subst hl
    clear hm HX
    go_enter Tryz.func58, Tryz.ntmps58
    go_wp2
    go_ret
    exact ⟨none, 0, rfl, Own.nil _ _ _ _ _, Below.refl _ _⟩
  | some ad =>
    obtain ⟨i0, hi, hz0, hz1, hz2⟩ := info_parts info_field
    go_enter Tryz.func58, Tryz.ntmps58
    go_wp2_with (first
      | (at_builtin; refine wpList_append_L rfl _ _ 23 rfl w.heap.size 63 i0 _ 2 24 Tryz.underlying23 hi hz0 hz1 hz2 rfl (by decide) _ _ _ rfl (own_empty _ _ _ _ (Nat.le_refl _)) ⟨l, some ad, c0⟩ rfl (HX.out.below (below1 _ _) (Nat.le_refl _)) (fun e => by cases e) (fun _ => rfl) one_field ?c1 ?c2 ?c3 ?_))
    case c1 => unfold maxLen; omega
    case c2 => omega
    case c3 => simp
    intro v' w2 hown2 hgrow
    have HG := Lib.hid hgrow
    have HOwn := Lib.hid hown2
    clear hown2 hgrow
    go_wp2
    go_ret
    have hown3 := HOwn.out
    try simp only [Nat.zero_add, List.nil_append] at hown3
    obtain ⟨A, c, rfl, hO⟩ := Own.of (k := 2) (cells := FieldD.cells) (fun _ => rfl) hown3
    exact ⟨A, c, rfl, hO, (below1 w _).trans (grown_below (own_empty _ _ _ 2 (Nat.le_refl _)) HG.out (by simp))⟩

theorem info_reg : (Tryz.prog.info? 65).map (fun i => (i.zero, i.size, i.bytes)) = some (some (.agg #[.string ⟨#[]⟩, .int .i64 0, .int .i64 0]), 3, 32) := by kernel_rfl
theorem one_reg : ∀ u, ∀ c ∈ RegD.cells u, c.oneCell' = true := by
  intro u c hc
  simp [RegD.cells] at hc; rcases hc with rfl | rfl | rfl <;> rfl
set_option maxRecDepth 100000 in
set_option maxHeartbeats 2000000 in
theorem clone_reg (x : L RegD) (w : World) (h : LOk w 3 RegD.cells x) (hm : x.l.length ≤ 100) :
    Calls Tryz.prog 59 #[x.v] w fun e w' => ∃ A c, e = .returned (.slice A x.l.length c) ∧ Own w' (fun g => w.heap.size ≤ g) 65 3 RegD.cells ⟨x.l, A, c⟩ ∧ Below w.heap.size w w' := by
  obtain ⟨l, A0, c0⟩ := x
  have HX := Lib.hid h
  clear h
  simp only [L.v] at *
  have q0 : ∀ (w : World) (a : Option Addr) (n c n' c' : Nat), (binOp .eql 24 (.slice a n c) (.slice none n' c')).run Tryz.prog w = .ok (.bool a.isNone) w := fun w a n c n' c' => Lib.run_eql_slice_nil w _ _ a n c n' c' Tryz.underlying24
  cases A0 with
  | none =>
    have hl : l = [] := by
      rcases HX.out.2 with h | ⟨g, o, e, _⟩
      · exact h
      · cases e
    subst hl
    clear hm HX
    go_enter Tryz.func59, Tryz.ntmps59
    go_wp2
    go_ret
    exact ⟨none, 0, rfl, Own.nil _ _ _ _ _, Below.refl _ _⟩
  | some ad =>
    obtain ⟨i0, hi, hz0, hz1, hz2⟩ := info_parts info_reg
    go_enter Tryz.func59, Tryz.ntmps59
    go_wp2_with (first
      | (at_builtin; refine wpList_append_L rfl _ _ 24 rfl w.heap.size 65 i0 _ 3 32 Tryz.underlying24 hi hz0 hz1 hz2 rfl (by decide) _ _ _ rfl (own_empty _ _ _ _ (Nat.le_refl _)) ⟨l, some ad, c0⟩ rfl (HX.out.below (below1 _ _) (Nat.le_refl _)) (fun e => by cases e) (fun _ => rfl) one_reg ?c1 ?c2 ?c3 ?_))
    case c1 => unfold maxLen; omega
    case c2 => omega
    case c3 => simp
    intro v' w2 hown2 hgrow
    have HG := Lib.hid hgrow
    have HOwn := Lib.hid hown2
    clear hown2 hgrow
    go_wp2
    go_ret
    have hown3 := HOwn.out
    try simp only [Nat.zero_add, List.nil_append] at hown3
    obtain ⟨A, c, rfl, hO⟩ := Own.of (k := 3) (cells := RegD.cells) (fun _ => rfl) hown3
    exact ⟨A, c, rfl, hO, (below1 w _).trans (grown_below (own_empty _ _ _ 3 (Nat.le_refl _)) HG.out (by simp))⟩

theorem info_int : (Tryz.prog.info? 3).map (fun i => (i.zero, i.size, i.bytes)) = some (some (.int .i64 0), 1, 8) := by kernel_rfl
theorem one_int : ∀ u, ∀ c ∈ icell u, c.oneCell' = true := by
  intro u c hc
  simp [icell] at hc; subst hc; rfl
set_option maxRecDepth 100000 in
set_option maxHeartbeats 2000000 in
theorem clone_int (x : L Int) (w : World) (h : LOk w 1 icell x) (hm : x.l.length ≤ 100) :
    Calls Tryz.prog 68 #[x.v] w fun e w' => ∃ A c, e = .returned (.slice A x.l.length c) ∧ Own w' (fun g => w.heap.size ≤ g) 3 1 icell ⟨x.l, A, c⟩ ∧ Below w.heap.size w w' := by
  obtain ⟨l, A0, c0⟩ := x
  have HX := Lib.hid h
  clear h
  simp only [L.v] at *
  have q0 : ∀ (w : World) (a : Option Addr) (n c n' c' : Nat), (binOp .eql 29 (.slice a n c) (.slice none n' c')).run Tryz.prog w = .ok (.bool a.isNone) w := fun w a n c n' c' => Lib.run_eql_slice_nil w _ _ a n c n' c' Tryz.underlying29
  cases A0 with
  | none =>
    have hl : l = [] := by
      rcases HX.out.2 with h | ⟨g, o, e, _⟩
      · exact h
      · cases e
    subst hl
    clear hm HX
    go_enter Tryz.func68, Tryz.ntmps68
    go_wp2
    go_ret
    exact ⟨none, 0, rfl, Own.nil _ _ _ _ _, Below.refl _ _⟩
  | some ad =>
    obtain ⟨i0, hi, hz0, hz1, hz2⟩ := info_parts info_int
    go_enter Tryz.func68, Tryz.ntmps68
    go_wp2_with (first
      | (at_builtin; refine wpList_append_L rfl _ _ 29 rfl w.heap.size 3 i0 _ 1 8 Tryz.underlying29 hi hz0 hz1 hz2 rfl (by decide) _ _ _ rfl (own_empty _ _ _ _ (Nat.le_refl _)) ⟨l, some ad, c0⟩ rfl (HX.out.below (below1 _ _) (Nat.le_refl _)) (fun e => by cases e) (fun _ => rfl) one_int ?c1 ?c2 ?c3 ?_))
    case c1 => unfold maxLen; omega
    case c2 => omega
    case c3 => simp
    intro v' w2 hown2 hgrow
    have HG := Lib.hid hgrow
    have HOwn := Lib.hid hown2
    clear hown2 hgrow
    go_wp2
    go_ret
    have hown3 := HOwn.out
    try simp only [Nat.zero_add, List.nil_append] at hown3
    obtain ⟨A, c, rfl, hO⟩ := Own.of (k := 1) (cells := icell) (fun _ => rfl) hown3
    exact ⟨A, c, rfl, hO, (below1 w _).trans (grown_below (own_empty _ _ _ 1 (Nat.le_refl _)) HG.out (by simp))⟩

theorem info_u32 : (Tryz.prog.info? 134).map (fun i => (i.zero, i.size, i.bytes)) = some (some (.int .u32 0), 1, 4) := by kernel_rfl
theorem one_u32 : ∀ u, ∀ c ∈ ucell u, c.oneCell' = true := by
  intro u c hc
  simp [ucell] at hc; subst hc; rfl
set_option maxRecDepth 100000 in
set_option maxHeartbeats 2000000 in
theorem clone_u32 (x : L Int) (w : World) (h : LOk w 1 ucell x) (hm : x.l.length ≤ 100) :
    Calls Tryz.prog 132 #[x.v] w fun e w' => ∃ A c, e = .returned (.slice A x.l.length c) ∧ Own w' (fun g => w.heap.size ≤ g) 134 1 ucell ⟨x.l, A, c⟩ ∧ Below w.heap.size w w' := by
  obtain ⟨l, A0, c0⟩ := x
  have HX := Lib.hid h
  clear h
  simp only [L.v] at *
  have q0 : ∀ (w : World) (a : Option Addr) (n c n' c' : Nat), (binOp .eql 48 (.slice a n c) (.slice none n' c')).run Tryz.prog w = .ok (.bool a.isNone) w := fun w a n c n' c' => Lib.run_eql_slice_nil w _ _ a n c n' c' Tryz.underlying48
  cases A0 with
  | none =>
    have hl : l = [] := by
      rcases HX.out.2 with h | ⟨g, o, e, _⟩
      · exact h
      · cases e
    subst hl
    clear hm HX
    go_enter Tryz.func132, Tryz.ntmps132
    go_wp2
    go_ret
    exact ⟨none, 0, rfl, Own.nil _ _ _ _ _, Below.refl _ _⟩
  | some ad =>
    obtain ⟨i0, hi, hz0, hz1, hz2⟩ := info_parts info_u32
    go_enter Tryz.func132, Tryz.ntmps132
    go_wp2_with (first
      | (at_builtin; refine wpList_append_L rfl _ _ 48 rfl w.heap.size 134 i0 _ 1 4 Tryz.underlying48 hi hz0 hz1 hz2 rfl (by decide) _ _ _ rfl (own_empty _ _ _ _ (Nat.le_refl _)) ⟨l, some ad, c0⟩ rfl (HX.out.below (below1 _ _) (Nat.le_refl _)) (fun e => by cases e) (fun _ => rfl) one_u32 ?c1 ?c2 ?c3 ?_))
    case c1 => unfold maxLen; omega
    case c2 => omega
    case c3 => simp
    intro v' w2 hown2 hgrow
    have HG := Lib.hid hgrow
    have HOwn := Lib.hid hown2
    clear hown2 hgrow
    go_wp2
    go_ret
    have hown3 := HOwn.out
    try simp only [Nat.zero_add, List.nil_append] at hown3
    obtain ⟨A, c, rfl, hO⟩ := Own.of (k := 1) (cells := ucell) (fun _ => rfl) hown3
    exact ⟨A, c, rfl, hO, (below1 w _).trans (grown_below (own_empty _ _ _ 1 (Nat.le_refl _)) HG.out (by simp))⟩

theorem info_node : (Tryz.prog.info? 131).map (fun i => (i.zero, i.size, i.bytes)) = some (some (.agg #[.int .i64 0, .int .i64 0, .int .i64 0]), 3, 24) := by kernel_rfl
theorem one_node : ∀ u, ∀ c ∈ NodeD.cells u, c.oneCell' = true := by
  intro u c hc
  simp [NodeD.cells] at hc; rcases hc with rfl | rfl | rfl <;> rfl
set_option maxRecDepth 100000 in
set_option maxHeartbeats 2000000 in
theorem clone_node (x : L NodeD) (w : World) (h : LOk w 3 NodeD.cells x) (hm : x.l.length ≤ 100) :
    Calls Tryz.prog 134 #[x.v] w fun e w' => ∃ A c, e = .returned (.slice A x.l.length c) ∧ Own w' (fun g => w.heap.size ≤ g) 131 3 NodeD.cells ⟨x.l, A, c⟩ ∧ Below w.heap.size w w' := by
  obtain ⟨l, A0, c0⟩ := x
  have HX := Lib.hid h
  clear h
  simp only [L.v] at *
  have q0 : ∀ (w : World) (a : Option Addr) (n c n' c' : Nat), (binOp .eql 32 (.slice a n c) (.slice none n' c')).run Tryz.prog w = .ok (.bool a.isNone) w := fun w a n c n' c' => Lib.run_eql_slice_nil w _ _ a n c n' c' Tryz.underlying32
  cases A0 with
  | none =>
    have hl : l = [] := by
      rcases HX.out.2 with h | ⟨g, o, e, _⟩
      · exact h
      · cases e
    subst hl
    clear hm HX
    go_enter Tryz.func134, Tryz.ntmps134
    go_wp2
    go_ret
    exact ⟨none, 0, rfl, Own.nil _ _ _ _ _, Below.refl _ _⟩
  | some ad =>
    obtain ⟨i0, hi, hz0, hz1, hz2⟩ := info_parts info_node
    go_enter Tryz.func134, Tryz.ntmps134
    go_wp2_with (first
      | (at_builtin; refine wpList_append_L rfl _ _ 32 rfl w.heap.size 131 i0 _ 3 24 Tryz.underlying32 hi hz0 hz1 hz2 rfl (by decide) _ _ _ rfl (own_empty _ _ _ _ (Nat.le_refl _)) ⟨l, some ad, c0⟩ rfl (HX.out.below (below1 _ _) (Nat.le_refl _)) (fun e => by cases e) (fun _ => rfl) one_node ?c1 ?c2 ?c3 ?_))
    case c1 => unfold maxLen; omega
    case c2 => omega
    case c3 => simp
    intro v' w2 hown2 hgrow
    have HG := Lib.hid hgrow
    have HOwn := Lib.hid hown2
    clear hown2 hgrow
    go_wp2
    go_ret
    have hown3 := HOwn.out
    try simp only [Nat.zero_add, List.nil_append] at hown3
    obtain ⟨A, c, rfl, hO⟩ := Own.of (k := 3) (cells := NodeD.cells) (fun _ => rfl) hown3
    exact ⟨A, c, rfl, hO, (below1 w _).trans (grown_below (own_empty _ _ _ 3 (Nat.le_refl _)) HG.out (by simp))⟩

theorem info_key : (Tryz.prog.info? 133).map (fun i => (i.zero, i.size, i.bytes)) = some (some (.agg #[.int .i64 0, .int .i64 0, .int .i64 0]), 3, 24) := by kernel_rfl
theorem one_key : ∀ u, ∀ c ∈ KeyD.cells u, c.oneCell' = true := by
  intro u c hc
  simp [KeyD.cells] at hc; rcases hc with rfl | rfl | rfl <;> rfl
set_option maxRecDepth 100000 in
set_option maxHeartbeats 2000000 in
theorem clone_key (x : L KeyD) (w : World) (h : LOk w 3 KeyD.cells x) (hm : x.l.length ≤ 100) :
    Calls Tryz.prog 131 #[x.v] w fun e w' => ∃ A c, e = .returned (.slice A x.l.length c) ∧ Own w' (fun g => w.heap.size ≤ g) 133 3 KeyD.cells ⟨x.l, A, c⟩ ∧ Below w.heap.size w w' := by
  obtain ⟨l, A0, c0⟩ := x
  have HX := Lib.hid h
  clear h
  simp only [L.v] at *
  have q0 : ∀ (w : World) (a : Option Addr) (n c n' c' : Nat), (binOp .eql 47 (.slice a n c) (.slice none n' c')).run Tryz.prog w = .ok (.bool a.isNone) w := fun w a n c n' c' => Lib.run_eql_slice_nil w _ _ a n c n' c' Tryz.underlying47
  cases A0 with
  | none =>
    have hl : l = [] := by
      rcases HX.out.2 with h | ⟨g, o, e, _⟩
      · exact h
      · cases e
    subst hl
    clear hm HX
    go_enter Tryz.func131, Tryz.ntmps131
    go_wp2
    go_ret
    exact ⟨none, 0, rfl, Own.nil _ _ _ _ _, Below.refl _ _⟩
  | some ad =>
    obtain ⟨i0, hi, hz0, hz1, hz2⟩ := info_parts info_key
    go_enter Tryz.func131, Tryz.ntmps131
    go_wp2_with (first
      | (at_builtin; refine wpList_append_L rfl _ _ 47 rfl w.heap.size 133 i0 _ 3 24 Tryz.underlying47 hi hz0 hz1 hz2 rfl (by decide) _ _ _ rfl (own_empty _ _ _ _ (Nat.le_refl _)) ⟨l, some ad, c0⟩ rfl (HX.out.below (below1 _ _) (Nat.le_refl _)) (fun e => by cases e) (fun _ => rfl) one_key ?c1 ?c2 ?c3 ?_))
    case c1 => unfold maxLen; omega
    case c2 => omega
    case c3 => simp
    intro v' w2 hown2 hgrow
    have HG := Lib.hid hgrow
    have HOwn := Lib.hid hown2
    clear hown2 hgrow
    go_wp2
    go_ret
    have hown3 := HOwn.out
    try simp only [Nat.zero_add, List.nil_append] at hown3
    obtain ⟨A, c, rfl, hO⟩ := Own.of (k := 3) (cells := KeyD.cells) (fun _ => rfl) hown3
    exact ⟨A, c, rfl, hO, (below1 w _).trans (grown_below (own_empty _ _ _ 3 (Nat.le_refl _)) HG.out (by simp))⟩

theorem info_case : (Tryz.prog.info? 166).map (fun i => (i.zero, i.size, i.bytes)) = some (some (.agg #[.int .u32 0, .int .u32 0, .int .i64 0]), 3, 16) := by kernel_rfl
theorem one_case : ∀ u, ∀ c ∈ CaseD.cells u, c.oneCell' = true := by
  intro u c hc
  simp [CaseD.cells] at hc; rcases hc with rfl | rfl | rfl <;> rfl
set_option maxRecDepth 100000 in
set_option maxHeartbeats 2000000 in
theorem clone_case (x : L CaseD) (w : World) (h : LOk w 3 CaseD.cells x) (hm : x.l.length ≤ 100) :
    Calls Tryz.prog 133 #[x.v] w fun e w' => ∃ A c, e = .returned (.slice A x.l.length c) ∧ Own w' (fun g => w.heap.size ≤ g) 166 3 CaseD.cells ⟨x.l, A, c⟩ ∧ Below w.heap.size w w' := by
  obtain ⟨l, A0, c0⟩ := x
  have HX := Lib.hid h
  clear h
  simp only [L.v] at *
  have q0 : ∀ (w : World) (a : Option Addr) (n c n' c' : Nat), (binOp .eql 71 (.slice a n c) (.slice none n' c')).run Tryz.prog w = .ok (.bool a.isNone) w := fun w a n c n' c' => Lib.run_eql_slice_nil w _ _ a n c n' c' Tryz.underlying71
  cases A0 with
  | none =>
    have hl : l = [] := by
      rcases HX.out.2 with h | ⟨g, o, e, _⟩
      · exact h
      · cases e
    subst hl
    clear hm HX
    go_enter Tryz.func133, Tryz.ntmps133
    go_wp2
    go_ret
    exact ⟨none, 0, rfl, Own.nil _ _ _ _ _, Below.refl _ _⟩
  | some ad =>
    obtain ⟨i0, hi, hz0, hz1, hz2⟩ := info_parts info_case
    go_enter Tryz.func133, Tryz.ntmps133
    go_wp2_with (first
      | (at_builtin; refine wpList_append_L rfl _ _ 71 rfl w.heap.size 166 i0 _ 3 16 Tryz.underlying71 hi hz0 hz1 hz2 rfl (by decide) _ _ _ rfl (own_empty _ _ _ _ (Nat.le_refl _)) ⟨l, some ad, c0⟩ rfl (HX.out.below (below1 _ _) (Nat.le_refl _)) (fun e => by cases e) (fun _ => rfl) one_case ?c1 ?c2 ?c3 ?_))
    case c1 => unfold maxLen; omega
    case c2 => omega
    case c3 => simp
    intro v' w2 hown2 hgrow
    have HG := Lib.hid hgrow
    have HOwn := Lib.hid hown2
    clear hown2 hgrow
    go_wp2
    go_ret
    have hown3 := HOwn.out
    try simp only [Nat.zero_add, List.nil_append] at hown3
    obtain ⟨A, c, rfl, hO⟩ := Own.of (k := 3) (cells := CaseD.cells) (fun _ => rfl) hown3
    exact ⟨A, c, rfl, hO, (below1 w _).trans (grown_below (own_empty _ _ _ 3 (Nat.le_refl _)) HG.out (by simp))⟩

end Go.Proofs.YtgfbikknkcaneaaGreat
namespace Go.Proofs.YtgfbikknkcaneaaGreat
open Go.RowKit

/-- e is a Bool that tells whether p holds -/
def Says (e : Ending) (p : Prop) : Prop := ∃ b : Bool, e = .returned (.bool b) ∧ (b = true ↔ p)
theorem Says.yes {p : Prop} (h : p) : Says (.returned (.bool true)) p := ⟨true, rfl, by simp [h]⟩
theorem Says.no {p : Prop} (h : ¬ p) : Says (.returned (.bool false)) p := ⟨false, rfl, by simp [h]⟩
theorem Says.congr {e : Ending} {p q : Prop} (h : Says e p) (hpq : p ↔ q) : Says e q := by
  obtain ⟨b, e, hb⟩ := h
  exact ⟨b, e, hb.trans hpq⟩
theorem take_step {α : Type} {xs ys : List α} {k : Nat} (hx : k < xs.length) (hy : k < ys.length) (h : xs.take k = ys.take k) (he : xs[k] = ys[k]) : xs.take (k + 1) = ys.take (k + 1) := by
  rw [List.take_succ_eq_append_getElem hx, List.take_succ_eq_append_getElem hy, h, he]
theorem str_ne {a b : ByteArray} (h : a ≠ b) : (a.toList == b.toList) = false := toList_false h

theorem neq_field (x y : FieldD) : ∃ b : Bool, (b = false ↔ x = y) ∧ ∀ w, Sem.run Tryz.prog (binOp .neq 63 (.agg #[.string x.name, .int .i64 x.width]) (.agg #[.string y.name, .int .i64 y.width])) w = .ok (.bool b) w := by
  refine ⟨!((x.name.toList == y.name.toList) && (x.width == y.width)), ?_, fun w => ?_⟩
  · obtain ⟨a0, a1⟩ := x
    obtain ⟨b0, b1⟩ := y
    simp [FieldD.mk.injEq, toList_inj]
  · have hS : Tryz.prog.underlying 63 = some (.struct (Tryz.prog.fieldsOf 63)) := by kernel_rfl
    have hp : Tryz.prog.stoodInHeld 63 = false := by kernel_rfl
    have u0 := Tryz.underlying3
    have a0 := Tryz.isAgg3
    have z0 := Tryz.sizeOf3
    have u1 := Tryz.underlying9
    have a1 := Tryz.isAgg9
    have z1 := Tryz.sizeOf9
    rw [run_neq_struct, show (10000 : Nat) = 9999 + 1 from rfl, run_equalIn_agg w 9999 63 _ _ hS hp]
    simp only [Program.fieldsOf, Tryz.underlying63]
    go_simp
    repeat' split
    all_goals simp_all

set_option maxRecDepth 100000 in
set_option maxHeartbeats 4000000 in
theorem equal_field (x y : L FieldD) (w : World) (h : LOk w 2 FieldD.cells x) (h2 : LOk w 2 FieldD.cells y) :
    Calls Tryz.prog 71 #[x.v, y.v] w fun e w' => Says e (x.l = y.l) ∧ Below w.heap.size w w' := by
  obtain ⟨l, A0, c0⟩ := x
  obtain ⟨m, A1, c1⟩ := y
  have HX := Lib.hid h
  have HY := Lib.hid h2
  have hmx := h.1
  have hmy := h2.1
  unfold maxLen at hmx hmy
  clear h h2
  simp only [L.v] at *
  by_cases hl : l.length = m.length
  case neg =>
    have hne : (((l.length : Nat) : Int) == ((m.length : Nat) : Int)) = false := by rw [beq_eq_false_iff_ne]; omega
    have hne2 : ¬ ((l.length : Nat) : Int) = ((m.length : Nat) : Int) := by omega
    have HL := Lib.hid hl
    clear hl
    go_enter Tryz.func71, Tryz.ntmps71
    go_wp2
    go_ret
    exact ⟨Says.no (fun e => HL.out (by rw [e])), Below.refl _ _⟩
  rw [← hl]
  have HL := Lib.hid hl
  clear hl hmy
  go_enter Tryz.func71, Tryz.ntmps71
  go_wp2
  go_loopw [13] (fun iv wr => ∃ k : Nat, k ≤ l.length ∧ iv = .int .i64 k ∧ Hid (l.take k = m.take k) ∧ Below w.heap.size w wr) (fun i _ => l.length - (intOf i).toNat)
  case atStart => exact ⟨0, Nat.zero_le _, rfl, Lib.hid rfl, Below.refl _ _⟩
  case round =>
    obtain ⟨k, hk, rfl, HK, HB⟩ := hrel
    by_cases hlt : k < l.length
    · have hlt2 : k < m.length := by have := HL.out; omega
      obtain ⟨g, of, hA, d0, d1⟩ := FieldD.at (HX.out.below HB (Nat.le_refl _)) hlt
      obtain ⟨g2, of2, hA2, e0, e1⟩ := FieldD.at (HY.out.below HB (Nat.le_refl _)) hlt2
      simp only at hA hA2
      subst hA hA2
      simp only at d0 d1 e0 e1
      have HS : Hid (l[k] = m[k] → l.take (k + 1) = m.take (k + 1)) := Lib.hid (take_step hlt hlt2 HK.out)
      have HN : Hid (¬ l[k] = m[k] → ¬ l = m) := Lib.hid (fun h e => h (by subst e; rfl))
      generalize l[k] = a at *
      generalize m[k] = b at *
      clear hlt2
      obtain ⟨bb, hb0, hbb⟩ := neq_field a b
      have HBB := Lib.hid hb0
      clear hb0
      cases bb with
      | true =>
        have HN2 := Lib.hid (HN.out (by intro e; have := HBB.out.2 e; cases this))
        clear HN HS
        go_wp2
        go_quiet (fail)
        go_wp2
        go_ret
        exact ⟨Says.no HN2.out, below_drewN HB _⟩
      | false =>
        have HS2 := Lib.hid (HS.out (by exact HBB.out.1 rfl))
        clear HN HS
        go_wp2
        go_quiet (fail)
        go_wp2
        go_roundw
        case rel => exact ⟨k + 1, by omega, by go_num, HS2, below_drewN HB _⟩
        case measure => simp [intOf]; omega
    · have hk' : k = l.length := by omega
      subst hk'
      have HE : Hid (l = m) := Lib.hid (by have := HK.out; rw [List.take_length, HL.out, List.take_length] at this; exact this)
      go_wp2
      go_ret
      exact ⟨Says.yes HE.out, HB⟩

theorem neq_reg (x y : RegD) : ∃ b : Bool, (b = false ↔ x = y) ∧ ∀ w, Sem.run Tryz.prog (binOp .neq 65 (.agg #[.string x.name, .int .i64 x.width, .int .i64 x.size]) (.agg #[.string y.name, .int .i64 y.width, .int .i64 y.size])) w = .ok (.bool b) w := by
  refine ⟨!((x.name.toList == y.name.toList) && (x.width == y.width) && (x.size == y.size)), ?_, fun w => ?_⟩
  · obtain ⟨a0, a1, a2⟩ := x
    obtain ⟨b0, b1, b2⟩ := y
    simp [RegD.mk.injEq, toList_inj, and_assoc]
  · have hS : Tryz.prog.underlying 65 = some (.struct (Tryz.prog.fieldsOf 65)) := by kernel_rfl
    have hp : Tryz.prog.stoodInHeld 65 = false := by kernel_rfl
    have u0 := Tryz.underlying3
    have a0 := Tryz.isAgg3
    have z0 := Tryz.sizeOf3
    have u1 := Tryz.underlying9
    have a1 := Tryz.isAgg9
    have z1 := Tryz.sizeOf9
    rw [run_neq_struct, show (10000 : Nat) = 9999 + 1 from rfl, run_equalIn_agg w 9999 65 _ _ hS hp]
    simp only [Program.fieldsOf, Tryz.underlying65]
    go_simp
    repeat' split
    all_goals simp_all

set_option maxRecDepth 100000 in
set_option maxHeartbeats 4000000 in
theorem equal_reg (x y : L RegD) (w : World) (h : LOk w 3 RegD.cells x) (h2 : LOk w 3 RegD.cells y) :
    Calls Tryz.prog 72 #[x.v, y.v] w fun e w' => Says e (x.l = y.l) ∧ Below w.heap.size w w' := by
  obtain ⟨l, A0, c0⟩ := x
  obtain ⟨m, A1, c1⟩ := y
  have HX := Lib.hid h
  have HY := Lib.hid h2
  have hmx := h.1
  have hmy := h2.1
  unfold maxLen at hmx hmy
  clear h h2
  simp only [L.v] at *
  by_cases hl : l.length = m.length
  case neg =>
    have hne : (((l.length : Nat) : Int) == ((m.length : Nat) : Int)) = false := by rw [beq_eq_false_iff_ne]; omega
    have hne2 : ¬ ((l.length : Nat) : Int) = ((m.length : Nat) : Int) := by omega
    have HL := Lib.hid hl
    clear hl
    go_enter Tryz.func72, Tryz.ntmps72
    go_wp2
    go_ret
    exact ⟨Says.no (fun e => HL.out (by rw [e])), Below.refl _ _⟩
  rw [← hl]
  have HL := Lib.hid hl
  clear hl hmy
  go_enter Tryz.func72, Tryz.ntmps72
  go_wp2
  go_loopw [13] (fun iv wr => ∃ k : Nat, k ≤ l.length ∧ iv = .int .i64 k ∧ Hid (l.take k = m.take k) ∧ Below w.heap.size w wr) (fun i _ => l.length - (intOf i).toNat)
  case atStart => exact ⟨0, Nat.zero_le _, rfl, Lib.hid rfl, Below.refl _ _⟩
  case round =>
    obtain ⟨k, hk, rfl, HK, HB⟩ := hrel
    by_cases hlt : k < l.length
    · have hlt2 : k < m.length := by have := HL.out; omega
      obtain ⟨g, of, hA, d0, d1, d2⟩ := RegD.at (HX.out.below HB (Nat.le_refl _)) hlt
      obtain ⟨g2, of2, hA2, e0, e1, e2⟩ := RegD.at (HY.out.below HB (Nat.le_refl _)) hlt2
      simp only at hA hA2
      subst hA hA2
      simp only at d0 d1 d2 e0 e1 e2
      have HS : Hid (l[k] = m[k] → l.take (k + 1) = m.take (k + 1)) := Lib.hid (take_step hlt hlt2 HK.out)
      have HN : Hid (¬ l[k] = m[k] → ¬ l = m) := Lib.hid (fun h e => h (by subst e; rfl))
      generalize l[k] = a at *
      generalize m[k] = b at *
      clear hlt2
      obtain ⟨bb, hb0, hbb⟩ := neq_reg a b
      have HBB := Lib.hid hb0
      clear hb0
      cases bb with
      | true =>
        have HN2 := Lib.hid (HN.out (by intro e; have := HBB.out.2 e; cases this))
        clear HN HS
        go_wp2
        go_quiet (fail)
        go_wp2
        go_ret
        exact ⟨Says.no HN2.out, below_drewN HB _⟩
      | false =>
        have HS2 := Lib.hid (HS.out (by exact HBB.out.1 rfl))
        clear HN HS
        go_wp2
        go_quiet (fail)
        go_wp2
        go_roundw
        case rel => exact ⟨k + 1, by omega, by go_num, HS2, below_drewN HB _⟩
        case measure => simp [intOf]; omega
    · have hk' : k = l.length := by omega
      subst hk'
      have HE : Hid (l = m) := Lib.hid (by have := HK.out; rw [List.take_length, HL.out, List.take_length] at this; exact this)
      go_wp2
      go_ret
      exact ⟨Says.yes HE.out, HB⟩

set_option maxRecDepth 100000 in
set_option maxHeartbeats 4000000 in
theorem equal_int (x y : L Int) (w : World) (h : LOk w 1 icell x) (h2 : LOk w 1 icell y) :
    Calls Tryz.prog 81 #[x.v, y.v] w fun e w' => Says e (x.l = y.l) ∧ Below w.heap.size w w' := by
  obtain ⟨l, A0, c0⟩ := x
  obtain ⟨m, A1, c1⟩ := y
  have HX := Lib.hid h
  have HY := Lib.hid h2
  have hmx := h.1
  have hmy := h2.1
  unfold maxLen at hmx hmy
  clear h h2
  simp only [L.v] at *
  by_cases hl : l.length = m.length
  case neg =>
    have hne : (((l.length : Nat) : Int) == ((m.length : Nat) : Int)) = false := by rw [beq_eq_false_iff_ne]; omega
    have hne2 : ¬ ((l.length : Nat) : Int) = ((m.length : Nat) : Int) := by omega
    have HL := Lib.hid hl
    clear hl
    go_enter Tryz.func81, Tryz.ntmps81
    go_wp2
    go_ret
    exact ⟨Says.no (fun e => HL.out (by rw [e])), Below.refl _ _⟩
  rw [← hl]
  have HL := Lib.hid hl
  clear hl hmy
  go_enter Tryz.func81, Tryz.ntmps81
  go_wp2
  go_loopw [13] (fun iv wr => ∃ k : Nat, k ≤ l.length ∧ iv = .int .i64 k ∧ Hid (l.take k = m.take k) ∧ Below w.heap.size w wr) (fun i _ => l.length - (intOf i).toNat)
  case atStart => exact ⟨0, Nat.zero_le _, rfl, Lib.hid rfl, Below.refl _ _⟩
  case round =>
    obtain ⟨k, hk, rfl, HK, HB⟩ := hrel
    by_cases hlt : k < l.length
    · have hlt2 : k < m.length := by have := HL.out; omega
      obtain ⟨g, of, hA, d0⟩ := icell_at (HX.out.below HB (Nat.le_refl _)) hlt
      obtain ⟨g2, of2, hA2, e0⟩ := icell_at (HY.out.below HB (Nat.le_refl _)) hlt2
      simp only at hA hA2
      subst hA hA2
      simp only at d0 e0
      have HS : Hid (l[k] = m[k] → l.take (k + 1) = m.take (k + 1)) := Lib.hid (take_step hlt hlt2 HK.out)
      have HN : Hid (¬ l[k] = m[k] → ¬ l = m) := Lib.hid (fun h e => h (by subst e; rfl))
      generalize l[k] = a at *
      generalize m[k] = b at *
      clear hlt2
      obtain ⟨bb, hbb⟩ : ∃ bb, (a != b) = bb := ⟨_, rfl⟩
      have HBB := Lib.hid (show bb = false ↔ a = b by rw [← hbb]; simp)
      cases bb with
      | true =>
        have HN2 := Lib.hid (HN.out (by intro e; have := HBB.out.2 e; cases this))
        clear HN HS
        go_wp2
        go_quiet (fail)
        go_wp2
        go_ret
        exact ⟨Says.no HN2.out, below_drewN HB _⟩
      | false =>
        have HS2 := Lib.hid (HS.out (by exact HBB.out.1 rfl))
        clear HN HS
        go_wp2
        go_quiet (fail)
        go_wp2
        go_roundw
        case rel => exact ⟨k + 1, by omega, by go_num, HS2, below_drewN HB _⟩
        case measure => simp [intOf]; omega
    · have hk' : k = l.length := by omega
      subst hk'
      have HE : Hid (l = m) := Lib.hid (by have := HK.out; rw [List.take_length, HL.out, List.take_length] at this; exact this)
      go_wp2
      go_ret
      exact ⟨Says.yes HE.out, HB⟩

set_option maxRecDepth 100000 in
set_option maxHeartbeats 4000000 in
theorem equal_u32 (x y : L Int) (w : World) (h : LOk w 1 ucell x) (h2 : LOk w 1 ucell y) :
    Calls Tryz.prog 138 #[x.v, y.v] w fun e w' => Says e (x.l = y.l) ∧ Below w.heap.size w w' := by
  obtain ⟨l, A0, c0⟩ := x
  obtain ⟨m, A1, c1⟩ := y
  have HX := Lib.hid h
  have HY := Lib.hid h2
  have hmx := h.1
  have hmy := h2.1
  unfold maxLen at hmx hmy
  clear h h2
  simp only [L.v] at *
  by_cases hl : l.length = m.length
  case neg =>
    have hne : (((l.length : Nat) : Int) == ((m.length : Nat) : Int)) = false := by rw [beq_eq_false_iff_ne]; omega
    have hne2 : ¬ ((l.length : Nat) : Int) = ((m.length : Nat) : Int) := by omega
    have HL := Lib.hid hl
    clear hl
    go_enter Tryz.func138, Tryz.ntmps138
    go_wp2
    go_ret
    exact ⟨Says.no (fun e => HL.out (by rw [e])), Below.refl _ _⟩
  rw [← hl]
  have HL := Lib.hid hl
  clear hl hmy
  go_enter Tryz.func138, Tryz.ntmps138
  go_wp2
  go_loopw [13] (fun iv wr => ∃ k : Nat, k ≤ l.length ∧ iv = .int .i64 k ∧ Hid (l.take k = m.take k) ∧ Below w.heap.size w wr) (fun i _ => l.length - (intOf i).toNat)
  case atStart => exact ⟨0, Nat.zero_le _, rfl, Lib.hid rfl, Below.refl _ _⟩
  case round =>
    obtain ⟨k, hk, rfl, HK, HB⟩ := hrel
    by_cases hlt : k < l.length
    · have hlt2 : k < m.length := by have := HL.out; omega
      obtain ⟨g, of, hA, d0⟩ := ucell_at (HX.out.below HB (Nat.le_refl _)) hlt
      obtain ⟨g2, of2, hA2, e0⟩ := ucell_at (HY.out.below HB (Nat.le_refl _)) hlt2
      simp only at hA hA2
      subst hA hA2
      simp only at d0 e0
      have HS : Hid (l[k] = m[k] → l.take (k + 1) = m.take (k + 1)) := Lib.hid (take_step hlt hlt2 HK.out)
      have HN : Hid (¬ l[k] = m[k] → ¬ l = m) := Lib.hid (fun h e => h (by subst e; rfl))
      generalize l[k] = a at *
      generalize m[k] = b at *
      clear hlt2
      obtain ⟨bb, hbb⟩ : ∃ bb, (a != b) = bb := ⟨_, rfl⟩
      have HBB := Lib.hid (show bb = false ↔ a = b by rw [← hbb]; simp)
      cases bb with
      | true =>
        have HN2 := Lib.hid (HN.out (by intro e; have := HBB.out.2 e; cases this))
        clear HN HS
        go_wp2
        go_quiet (fail)
        go_wp2
        go_ret
        exact ⟨Says.no HN2.out, below_drewN HB _⟩
      | false =>
        have HS2 := Lib.hid (HS.out (by exact HBB.out.1 rfl))
        clear HN HS
        go_wp2
        go_quiet (fail)
        go_wp2
        go_roundw
        case rel => exact ⟨k + 1, by omega, by go_num, HS2, below_drewN HB _⟩
        case measure => simp [intOf]; omega
    · have hk' : k = l.length := by omega
      subst hk'
      have HE : Hid (l = m) := Lib.hid (by have := HK.out; rw [List.take_length, HL.out, List.take_length] at this; exact this)
      go_wp2
      go_ret
      exact ⟨Says.yes HE.out, HB⟩

theorem neq_node (x y : NodeD) : ∃ b : Bool, (b = false ↔ x = y) ∧ ∀ w, Sem.run Tryz.prog (binOp .neq 131 (.agg #[.int .i64 x.op, .int .i64 x.n, .int .i64 x.w]) (.agg #[.int .i64 y.op, .int .i64 y.n, .int .i64 y.w])) w = .ok (.bool b) w := by
  refine ⟨!((x.op == y.op) && (x.n == y.n) && (x.w == y.w)), ?_, fun w => ?_⟩
  · obtain ⟨a0, a1, a2⟩ := x
    obtain ⟨b0, b1, b2⟩ := y
    simp [NodeD.mk.injEq, and_assoc]
  · have hS : Tryz.prog.underlying 131 = some (.struct (Tryz.prog.fieldsOf 131)) := by kernel_rfl
    have hp : Tryz.prog.stoodInHeld 131 = false := by kernel_rfl
    have u0 := Tryz.underlying3
    have a0 := Tryz.isAgg3
    have z0 := Tryz.sizeOf3
    rw [run_neq_struct, show (10000 : Nat) = 9999 + 1 from rfl, run_equalIn_agg w 9999 131 _ _ hS hp]
    simp only [Program.fieldsOf, Tryz.underlying131]
    go_simp
    repeat' split
    all_goals simp_all

set_option maxRecDepth 100000 in
set_option maxHeartbeats 4000000 in
theorem equal_node (x y : L NodeD) (w : World) (h : LOk w 3 NodeD.cells x) (h2 : LOk w 3 NodeD.cells y) :
    Calls Tryz.prog 140 #[x.v, y.v] w fun e w' => Says e (x.l = y.l) ∧ Below w.heap.size w w' := by
  obtain ⟨l, A0, c0⟩ := x
  obtain ⟨m, A1, c1⟩ := y
  have HX := Lib.hid h
  have HY := Lib.hid h2
  have hmx := h.1
  have hmy := h2.1
  unfold maxLen at hmx hmy
  clear h h2
  simp only [L.v] at *
  by_cases hl : l.length = m.length
  case neg =>
    have hne : (((l.length : Nat) : Int) == ((m.length : Nat) : Int)) = false := by rw [beq_eq_false_iff_ne]; omega
    have hne2 : ¬ ((l.length : Nat) : Int) = ((m.length : Nat) : Int) := by omega
    have HL := Lib.hid hl
    clear hl
    go_enter Tryz.func140, Tryz.ntmps140
    go_wp2
    go_ret
    exact ⟨Says.no (fun e => HL.out (by rw [e])), Below.refl _ _⟩
  rw [← hl]
  have HL := Lib.hid hl
  clear hl hmy
  go_enter Tryz.func140, Tryz.ntmps140
  go_wp2
  go_loopw [13] (fun iv wr => ∃ k : Nat, k ≤ l.length ∧ iv = .int .i64 k ∧ Hid (l.take k = m.take k) ∧ Below w.heap.size w wr) (fun i _ => l.length - (intOf i).toNat)
  case atStart => exact ⟨0, Nat.zero_le _, rfl, Lib.hid rfl, Below.refl _ _⟩
  case round =>
    obtain ⟨k, hk, rfl, HK, HB⟩ := hrel
    by_cases hlt : k < l.length
    · have hlt2 : k < m.length := by have := HL.out; omega
      obtain ⟨g, of, hA, d0, d1, d2⟩ := NodeD.at (HX.out.below HB (Nat.le_refl _)) hlt
      obtain ⟨g2, of2, hA2, e0, e1, e2⟩ := NodeD.at (HY.out.below HB (Nat.le_refl _)) hlt2
      simp only at hA hA2
      subst hA hA2
      simp only at d0 d1 d2 e0 e1 e2
      have HS : Hid (l[k] = m[k] → l.take (k + 1) = m.take (k + 1)) := Lib.hid (take_step hlt hlt2 HK.out)
      have HN : Hid (¬ l[k] = m[k] → ¬ l = m) := Lib.hid (fun h e => h (by subst e; rfl))
      generalize l[k] = a at *
      generalize m[k] = b at *
      clear hlt2
      obtain ⟨bb, hb0, hbb⟩ := neq_node a b
      have HBB := Lib.hid hb0
      clear hb0
      cases bb with
      | true =>
        have HN2 := Lib.hid (HN.out (by intro e; have := HBB.out.2 e; cases this))
        clear HN HS
        go_wp2
        go_quiet (fail)
        go_wp2
        go_ret
        exact ⟨Says.no HN2.out, below_drewN HB _⟩
      | false =>
        have HS2 := Lib.hid (HS.out (by exact HBB.out.1 rfl))
        clear HN HS
        go_wp2
        go_quiet (fail)
        go_wp2
        go_roundw
        case rel => exact ⟨k + 1, by omega, by go_num, HS2, below_drewN HB _⟩
        case measure => simp [intOf]; omega
    · have hk' : k = l.length := by omega
      subst hk'
      have HE : Hid (l = m) := Lib.hid (by have := HK.out; rw [List.take_length, HL.out, List.take_length] at this; exact this)
      go_wp2
      go_ret
      exact ⟨Says.yes HE.out, HB⟩

theorem neq_key (x y : KeyD) : ∃ b : Bool, (b = false ↔ x = y) ∧ ∀ w, Sem.run Tryz.prog (binOp .neq 133 (.agg #[.int .i64 x.h, .int .i64 x.f, .int .i64 x.kind]) (.agg #[.int .i64 y.h, .int .i64 y.f, .int .i64 y.kind])) w = .ok (.bool b) w := by
  refine ⟨!((x.h == y.h) && (x.f == y.f) && (x.kind == y.kind)), ?_, fun w => ?_⟩
  · obtain ⟨a0, a1, a2⟩ := x
    obtain ⟨b0, b1, b2⟩ := y
    simp [KeyD.mk.injEq, and_assoc]
  · have hS : Tryz.prog.underlying 133 = some (.struct (Tryz.prog.fieldsOf 133)) := by kernel_rfl
    have hp : Tryz.prog.stoodInHeld 133 = false := by kernel_rfl
    have u0 := Tryz.underlying3
    have a0 := Tryz.isAgg3
    have z0 := Tryz.sizeOf3
    rw [run_neq_struct, show (10000 : Nat) = 9999 + 1 from rfl, run_equalIn_agg w 9999 133 _ _ hS hp]
    simp only [Program.fieldsOf, Tryz.underlying133]
    go_simp
    repeat' split
    all_goals simp_all

set_option maxRecDepth 100000 in
set_option maxHeartbeats 4000000 in
theorem equal_key (x y : L KeyD) (w : World) (h : LOk w 3 KeyD.cells x) (h2 : LOk w 3 KeyD.cells y) :
    Calls Tryz.prog 137 #[x.v, y.v] w fun e w' => Says e (x.l = y.l) ∧ Below w.heap.size w w' := by
  obtain ⟨l, A0, c0⟩ := x
  obtain ⟨m, A1, c1⟩ := y
  have HX := Lib.hid h
  have HY := Lib.hid h2
  have hmx := h.1
  have hmy := h2.1
  unfold maxLen at hmx hmy
  clear h h2
  simp only [L.v] at *
  by_cases hl : l.length = m.length
  case neg =>
    have hne : (((l.length : Nat) : Int) == ((m.length : Nat) : Int)) = false := by rw [beq_eq_false_iff_ne]; omega
    have hne2 : ¬ ((l.length : Nat) : Int) = ((m.length : Nat) : Int) := by omega
    have HL := Lib.hid hl
    clear hl
    go_enter Tryz.func137, Tryz.ntmps137
    go_wp2
    go_ret
    exact ⟨Says.no (fun e => HL.out (by rw [e])), Below.refl _ _⟩
  rw [← hl]
  have HL := Lib.hid hl
  clear hl hmy
  go_enter Tryz.func137, Tryz.ntmps137
  go_wp2
  go_loopw [13] (fun iv wr => ∃ k : Nat, k ≤ l.length ∧ iv = .int .i64 k ∧ Hid (l.take k = m.take k) ∧ Below w.heap.size w wr) (fun i _ => l.length - (intOf i).toNat)
  case atStart => exact ⟨0, Nat.zero_le _, rfl, Lib.hid rfl, Below.refl _ _⟩
  case round =>
    obtain ⟨k, hk, rfl, HK, HB⟩ := hrel
    by_cases hlt : k < l.length
    · have hlt2 : k < m.length := by have := HL.out; omega
      obtain ⟨g, of, hA, d0, d1, d2⟩ := KeyD.at (HX.out.below HB (Nat.le_refl _)) hlt
      obtain ⟨g2, of2, hA2, e0, e1, e2⟩ := KeyD.at (HY.out.below HB (Nat.le_refl _)) hlt2
      simp only at hA hA2
      subst hA hA2
      simp only at d0 d1 d2 e0 e1 e2
      have HS : Hid (l[k] = m[k] → l.take (k + 1) = m.take (k + 1)) := Lib.hid (take_step hlt hlt2 HK.out)
      have HN : Hid (¬ l[k] = m[k] → ¬ l = m) := Lib.hid (fun h e => h (by subst e; rfl))
      generalize l[k] = a at *
      generalize m[k] = b at *
      clear hlt2
      obtain ⟨bb, hb0, hbb⟩ := neq_key a b
      have HBB := Lib.hid hb0
      clear hb0
      cases bb with
      | true =>
        have HN2 := Lib.hid (HN.out (by intro e; have := HBB.out.2 e; cases this))
        clear HN HS
        go_wp2
        go_quiet (fail)
        go_wp2
        go_ret
        exact ⟨Says.no HN2.out, below_drewN HB _⟩
      | false =>
        have HS2 := Lib.hid (HS.out (by exact HBB.out.1 rfl))
        clear HN HS
        go_wp2
        go_quiet (fail)
        go_wp2
        go_roundw
        case rel => exact ⟨k + 1, by omega, by go_num, HS2, below_drewN HB _⟩
        case measure => simp [intOf]; omega
    · have hk' : k = l.length := by omega
      subst hk'
      have HE : Hid (l = m) := Lib.hid (by have := HK.out; rw [List.take_length, HL.out, List.take_length] at this; exact this)
      go_wp2
      go_ret
      exact ⟨Says.yes HE.out, HB⟩

theorem neq_case (x y : CaseD) : ∃ b : Bool, (b = false ↔ x = y) ∧ ∀ w, Sem.run Tryz.prog (binOp .neq 166 (.agg #[.int .u32 x.value, .int .u32 x.mask, .int .i64 x.next]) (.agg #[.int .u32 y.value, .int .u32 y.mask, .int .i64 y.next])) w = .ok (.bool b) w := by
  refine ⟨!((x.value == y.value) && (x.mask == y.mask) && (x.next == y.next)), ?_, fun w => ?_⟩
  · obtain ⟨a0, a1, a2⟩ := x
    obtain ⟨b0, b1, b2⟩ := y
    simp [CaseD.mk.injEq, and_assoc]
  · have hS : Tryz.prog.underlying 166 = some (.struct (Tryz.prog.fieldsOf 166)) := by kernel_rfl
    have hp : Tryz.prog.stoodInHeld 166 = false := by kernel_rfl
    have u0 := Tryz.underlying3
    have a0 := Tryz.isAgg3
    have z0 := Tryz.sizeOf3
    have u1 := Tryz.underlying134
    have a1 := Tryz.isAgg134
    have z1 := Tryz.sizeOf134
    rw [run_neq_struct, show (10000 : Nat) = 9999 + 1 from rfl, run_equalIn_agg w 9999 166 _ _ hS hp]
    simp only [Program.fieldsOf, Tryz.underlying166]
    go_simp
    repeat' split
    all_goals simp_all

set_option maxRecDepth 100000 in
set_option maxHeartbeats 4000000 in
theorem equal_case (x y : L CaseD) (w : World) (h : LOk w 3 CaseD.cells x) (h2 : LOk w 3 CaseD.cells y) :
    Calls Tryz.prog 139 #[x.v, y.v] w fun e w' => Says e (x.l = y.l) ∧ Below w.heap.size w w' := by
  obtain ⟨l, A0, c0⟩ := x
  obtain ⟨m, A1, c1⟩ := y
  have HX := Lib.hid h
  have HY := Lib.hid h2
  have hmx := h.1
  have hmy := h2.1
  unfold maxLen at hmx hmy
  clear h h2
  simp only [L.v] at *
  by_cases hl : l.length = m.length
  case neg =>
    have hne : (((l.length : Nat) : Int) == ((m.length : Nat) : Int)) = false := by rw [beq_eq_false_iff_ne]; omega
    have hne2 : ¬ ((l.length : Nat) : Int) = ((m.length : Nat) : Int) := by omega
    have HL := Lib.hid hl
    clear hl
    go_enter Tryz.func139, Tryz.ntmps139
    go_wp2
    go_ret
    exact ⟨Says.no (fun e => HL.out (by rw [e])), Below.refl _ _⟩
  rw [← hl]
  have HL := Lib.hid hl
  clear hl hmy
  go_enter Tryz.func139, Tryz.ntmps139
  go_wp2
  go_loopw [13] (fun iv wr => ∃ k : Nat, k ≤ l.length ∧ iv = .int .i64 k ∧ Hid (l.take k = m.take k) ∧ Below w.heap.size w wr) (fun i _ => l.length - (intOf i).toNat)
  case atStart => exact ⟨0, Nat.zero_le _, rfl, Lib.hid rfl, Below.refl _ _⟩
  case round =>
    obtain ⟨k, hk, rfl, HK, HB⟩ := hrel
    by_cases hlt : k < l.length
    · have hlt2 : k < m.length := by have := HL.out; omega
      obtain ⟨g, of, hA, d0, d1, d2⟩ := CaseD.at (HX.out.below HB (Nat.le_refl _)) hlt
      obtain ⟨g2, of2, hA2, e0, e1, e2⟩ := CaseD.at (HY.out.below HB (Nat.le_refl _)) hlt2
      simp only at hA hA2
      subst hA hA2
      simp only at d0 d1 d2 e0 e1 e2
      have HS : Hid (l[k] = m[k] → l.take (k + 1) = m.take (k + 1)) := Lib.hid (take_step hlt hlt2 HK.out)
      have HN : Hid (¬ l[k] = m[k] → ¬ l = m) := Lib.hid (fun h e => h (by subst e; rfl))
      generalize l[k] = a at *
      generalize m[k] = b at *
      clear hlt2
      obtain ⟨bb, hb0, hbb⟩ := neq_case a b
      have HBB := Lib.hid hb0
      clear hb0
      cases bb with
      | true =>
        have HN2 := Lib.hid (HN.out (by intro e; have := HBB.out.2 e; cases this))
        clear HN HS
        go_wp2
        go_quiet (fail)
        go_wp2
        go_ret
        exact ⟨Says.no HN2.out, below_drewN HB _⟩
      | false =>
        have HS2 := Lib.hid (HS.out (by exact HBB.out.1 rfl))
        clear HN HS
        go_wp2
        go_quiet (fail)
        go_wp2
        go_roundw
        case rel => exact ⟨k + 1, by omega, by go_num, HS2, below_drewN HB _⟩
        case measure => simp [intOf]; omega
    · have hk' : k = l.length := by omega
      subst hk'
      have HE : Hid (l = m) := Lib.hid (by have := HK.out; rw [List.take_length, HL.out, List.take_length] at this; exact this)
      go_wp2
      go_ret
      exact ⟨Says.yes HE.out, HB⟩

end Go.Proofs.YtgfbikknkcaneaaGreat
