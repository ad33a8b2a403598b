/- Walks and plain laws that the proof of the law OptextFormats stands on. No condition beyond those that each states. -/
import Derived.Below
import Derived.ChangeSame
import Derived.ProofKit
import Derived.Test.YtofjapcgbajmiaaGreatDoorProg
import Derived.WalkKit
import Derived.WalkSpells
import Derived.WalkLawsBesides
import Derived.Lib.Hide
import Derived.Deep.QuietTactic
import Derived.BigQuiet
import Derived.Laws.OwnMore
import Derived.Deep.Draws
import Derived.Laws.Rows
import Derived.Laws.ResultCell
import Derived.Deep.OwnRows
import Derived.OwnWalk
import Derived.WalkMore
import Derived.Deep.LoopGhost
import Derived.Laws.AppendOwn
import Derived.Deep.RegionHeld3
import Derived.Lib.SlicesS
import Derived.Deep.AppendLies
import Derived.Deep.Cut
import Derived.Lib.IndexBytes
import Derived.Lib.ItoaMem
import Derived.Lib.ItoaNum
import Derived.Lib.Walk
import Derived.BigCall
import Derived.BigGuard
import Derived.Test.YtofjapcgbajmiaaGreatDoorRows
import Derived.ChangeVars
import Derived.LaidLaws
import Derived.LaidHandle
import Derived.Stop.Joined
import Derived.Stop.LaidErr
import Derived.Lib.LaidTab
import Derived.ChangeArms
import Derived.ReadAgain
import Derived.ChangeOld
import Derived.WideShapes
import Derived.SizedLaws
import Derived.Laws.AppendOwnNone
import Derived.RowKit3
import Derived.Maps.OwnSet
import Derived.Laws.Cover1
import Derived.Maps.AppendAt
import Derived.Deep.RegionLaw
import Derived.Lib.SliceRun
import Derived.Laws.StructEq
import Derived.RegionTactic
import Derived.StillTailTactics
import Derived.Defers
import Derived.Recover
import Derived.Lib.Join
import Derived.Deep.CutRange
import Derived.Deep.CutBlock
import Derived.Lib.SplitLaws
import Derived.Lib.TrimByte
import Derived.Test.YtofjapcgbajmiaaGreatDoorSh
namespace Go.Proofs.YtofjapcgbajmiaaGreatDoor
open Go.RowKit
set_option maxRecDepth 100000
set_option maxHeartbeats 32000000
theorem sA {α : Type} {l : List α} {i : Nat} {a : α} : l.toArray.setIfInBounds i a = (l.set i a).toArray := List.setIfInBounds_toArray ..
theorem sZ {α : Type} {x : α} {l : List α} {a : α} : (x :: l).set 0 a = a :: l := List.set_cons_zero
theorem sS {α : Type} {x : α} {l : List α} {n : Nat} {a : α} : (x :: l).set (n + 1) a = x :: l.set n a := List.set_cons_succ
theorem hi_ {p : Prop} (h : p) : Hid p := Lib.hid h
theorem bf_ {α : Type} [BEq α] [LawfulBEq α] {a b : α} (h : a ≠ b) : (a == b) = false := beq_eq_false_iff_ne.2 h
theorem tr_ {α : Type} {a b c : α} (h : Hid (a = b)) (k : b = c) : Hid (a = c) := Lib.hid (h.out.trans k)
section
open Go.RowKit Go.WideShapes Go.ChangeShapes
section
variable {H : Type} {enc : TypeId × Value → H} {P : Program}
theorem post_of_below {f : Func} {s : ChangeSpec} {apart fresh handsOn again : Bool} {W W' : World} {args : Array Value} {v : Value} {ds gs : List (DataW H)} {before pa pv : List MemPlace}
  (hW : DataW.Whole enc P f.params.toList s.vars apart W args.toList ds gs before)
  (hres : ∀ (b : Nat) (sp : Nat → Bool) (hd : Bool), DataW.TrodAll enc P W' b sp hd f.resultTypes.toList (v.resultList f.resultTypes.size) (s.fn H (ds ++ gs)).results [])
  (hargs : ∀ sp : Nat → Bool, (∀ p ∈ before, sp p.block = true) → DataW.TrodAll enc P W' 0 sp true f.params.toList args.toList (s.fn H (ds ++ gs)).args pa)
  (hvars : ∀ sp : Nat → Bool, (∀ p ∈ before, sp p.block = true) → DataW.TrodVars enc P W' sp s.vars (s.fn H (ds ++ gs)).vars pv)
  (hps : before = pa ++ pv) (hb : Below W.heap.size W W')
  (hok : ∀ (j : Nat) (t : TypeId) (r : Value), f.resultTypes[j]? = some t → (v.resultList f.resultTypes.size)[j]? = some r → Value.okWide P W' .any 0 t r) :
  s.post enc P f apart fresh handsOn again W args v W' := by
 have hlt : ∀ p ∈ before, p.block < W.heap.size := fun p hp => hW.lt p hp
 have hold : ∀ p ∈ before, (fun b => decide (b < W.heap.size)) p.block = true := fun p hp => by simpa using hlt p hp
 refine ⟨ds, gs, before, [], pa, pv, hW, hres _ _ _, hargs _ hold, hvars _ hold, World.keptBut_mono (fun p hp => ⟨hp, ?_⟩) (hb.frame (· ∈ before)), fun _ => ?_⟩
 ·
  rw [hps, List.mem_append] at hp
  exact Or.inr hp
 ·
  obtain ⟨_, _, _, _, _, hz, hn⟩ := hW
  refine ⟨hok, _, _, ([] ++ pa) ++ pv, ⟨[] ++ pa, pv, trodAll_append (hargs _ (fun _ _ => rfl)) (hres _ _ _), hvars _ (fun _ _ => rfl), rfl, ?_, ?_⟩, ?_⟩
  ·
   intro b off hp
   have hin : MemPlace.cell b off ∈ before := by rw [hps]; simpa using hp
   rw [hb.frozen (hlt _ hin)]
   exact hz b off hin
  ·
   intro ha
   have := hn ha
   rw [hps] at this
   simpa using this
  ·
   intro p hp _
   rw [hps]
   simpa using hp
end
end
theorem ret_bool {a b : Bool} (h : a = b) : Ending.returned (.bool a) = .returned (.bool b) := by rw [h]
theorem ret_int {k : IntKind} {a b : Int} (h : a = b) : Ending.returned (.int k a) = .returned (.int k b) := by rw [h]
theorem quiet_add_same {P : Program} {f : FuncId} {args : Array Value} {w : World} {a n : Nat} {v : Value}
  (h : Calls P f args (w.drewN (a + n)) fun e w' => e = .returned v ∧ w' = w.drewN (a + n)) :
  Calls P f args (w.drewN (a + n)) fun e w'' => e = .returned v ∧ ∃ m, w'' = w.drewN (a + m) :=
 h.mono fun _ _ ⟨he, hm⟩ => ⟨he, n, hm⟩
theorem toList_data (s : ByteArray) : s.toList = s.data.toList := ByteArray.toList_eq s
theorem below_drewN {B : Nat} {a w : World} (h : Below B a w) (n : Nat) : Below B a (w.drewN n) := ⟨h.os, h.tape, h.output, h.size, h.block⟩
def Blk (w : World) (g : Nat) (t : TypeId) (cs : Array Value) : Prop := w.heap[g]? = some (.cells cs t (0, 0))
section
variable {w w' : World} {g : Nat} {t : TypeId} {cs : Array Value}
theorem Blk.lt (h : Blk w g t cs) : g < w.heap.size := by
 rcases Nat.lt_or_ge g w.heap.size with hlt | hge
 · exact hlt
 · unfold Blk at h; rw [Array.getElem?_eq_none hge] at h; cases h
theorem Blk.cell (h : Blk w g t cs) (i : Nat) : w.cell? ⟨g, i, none⟩ = cs[i]? := cell_of_row w g i cs t (0, 0) h
theorem Blk.frozen (h : Blk w g t cs) (i : Nat) : w.frozen? ⟨g, i, none⟩ = false := by
 unfold Blk at h
 simp [World.frozen?, h]
theorem Blk.new (w : World) (t : TypeId) (cs : Array Value) : Blk (w.alloc (.cells cs t)) w.heap.size t cs := heap_alloc_new w _
theorem Blk.drew (h : Blk w g t cs) : Blk w.drew g t cs := h
theorem Blk.drewN (h : Blk w g t cs) (n : Nat) : Blk (w.drewN n) g t cs := h
theorem Blk.alloc (h : Blk w g t cs) (o : Obj) : Blk (w.alloc o) g t cs := (Below.heap_alloc w o g h.lt).trans h
theorem Blk.set_ (h : Blk w g t cs) (i : Nat) (u : Value) : Blk (w.setCell ⟨g, i, none⟩ u) g t (cs.setIfInBounds i u) := by
 unfold Blk at h ⊢
 simp [World.setCell, Array.getElem?_modify, h]
theorem Blk.far (h : Blk w g t cs) {p : Addr} (hp : g ≠ p.block) (u : Value) : Blk (w.setCell p u) g t cs := (Below.heap_setCell w p u g hp).trans h
theorem Blk.below {B : Nat} (h : Blk w g t cs) (hb : Below B w w') (hg : g < B) : Blk w' g t cs := (hb.block g hg).trans h
theorem Blk.grown {row : Option Nat} (h : Blk w g t cs) (hb : w.grownBy w' row) (hg : some g ≠ row) : Blk w' g t cs := (hb.block g h.lt hg).trans h
end
theorem results_row_tmp {P : Program} {fn : Func} {p u : Tmp} {ty : TypeId} (h : fn.results = #[.cell p ty, .tmp u]) (tmps : Array Value) (w : World) (g : Nat) (t : TypeId) (cs : Array Value) (d : TypeDesc)
  (hp : tmps.getD p undef = .pointer (some ⟨g, 0, none⟩)) (hg : Blk w g t cs)
  (hu : P.underlying ty = some d) (hd : (match d with | .struct _ | .array _ _ => true | _ => false) = true) (hi : (P.info? ty).map (·.size) = some cs.size) :
  (results fn tmps).run P w = .ok (.tuple #[.agg cs, tmps.getD u undef]) w := by
 rw [results_cell_tmp h, hp]
 simp [asAddr, run_loadVar_row w g t ty cs (0, 0) d hg hu hd hi]
theorem only_of_below {a w : World} (h : Below a.heap.size a w) (row : Option Nat) : a.grownBy w row := ⟨h.os, h.tape, h.output, h.size, fun i hi _ => h.block i hi⟩
theorem own_slice {w : World} {base : Nat} {e : TypeId} {size : Nat} {v : Value} {n : Nat} {xs : List Value} (h : w.ownsRow base e size v n xs) : ∃ A c, v = .slice A n c ∧ n ≤ c := by
 rcases h.2 with ⟨rfl, rfl⟩ | ⟨g, cap, cur, rfl, _, _, hc, _⟩
 · exact ⟨_, _, rfl, Nat.le_refl _⟩
 · exact ⟨_, _, rfl, hc⟩
theorem own_below {w w' : World} {base : Nat} {e : TypeId} {size : Nat} {v : Value} {n : Nat} {xs : List Value} (h : w.ownsRow base e size v n xs) (hb : Below w.heap.size w w') : w'.ownsRow base e size v n xs := by
 refine h.kept (only_of_below hb none) ?_
 rcases h.2 with ⟨rfl, rfl⟩ | ⟨g, cap, cur, rfl, _⟩
 · exact .inl rfl
 · exact .inr (by simp [Value.ownBlock])
theorem below_alloc {a w : World} (h : Below a.heap.size a w) (o : Obj) : Below a.heap.size a (w.alloc o) := h.alloc h.size o
theorem ba1 {w a : World} (h : Below w.heap.size w a) {o : Obj} : Below w.heap.size w (a.alloc o) := below_alloc h o
theorem ba2 {w a : World} (h : Below w.heap.size w a) {o o2 : Obj} : Below w.heap.size w ((a.alloc o).alloc o2) := below_alloc (below_alloc h o) o2
theorem ba3 {w a : World} (h : Below w.heap.size w a) {o o2 o3 : Obj} : Below w.heap.size w (((a.alloc o).alloc o2).alloc o3) := below_alloc (below_alloc (below_alloc h o) o2) o3
theorem below1 (w : World) (o : Obj) : Below w.heap.size w (w.alloc o) := below_alloc (Below.refl _ _) o
theorem below2 (w : World) (o o2 : Obj) : Below w.heap.size w ((w.alloc o).alloc o2) := below_alloc (below1 w o) o2
theorem below_step {w w1 w2 : World} (h : Below w.heap.size w w1) (h2 : Below w1.heap.size w1 w2) : Below w.heap.size w w2 := h.trans (h2.mono h.size)
theorem below_drew {w w1 : World} (h : Below w.heap.size w w1) : Below w.heap.size w w1.drew := h.drew
theorem below_cell {w w1 : World} {a : Addr} {v : Value} (h : Below w.heap.size w w1) (hc : w.cell? a = some v) : w1.cell? a = some v := (h.cell (World.block_lt_of_cell? w a hc)).trans hc
structure L (α : Type) where
 l : List α
 A : Option Addr
 c : Nat
@[reducible] def L.v {α : Type} (x : L α) : Value := .slice x.A x.l.length x.c
def LOk (w : World) (k : Nat) {α : Type} (cells : α → List Value) (x : L α) : Prop :=
 x.l.length ≤ maxLen ∧ (x.l = [] ∨ ∃ g o, x.A = some ⟨g, o, none⟩ ∧ g < w.heap.size ∧ ∀ i (hi : i < x.l.length) j, j < k → w.cell? ⟨g, o + i * k + j, none⟩ = (cells x.l[i])[j]?)
theorem LOk.below {w w' : World} {B k : Nat} {α : Type} {cells : α → List Value} {x : L α} (h : LOk w k cells x) (hb : Below B w w') (hB : w.heap.size ≤ B) : LOk w' k cells x := by
 refine ⟨h.1, ?_⟩
 rcases h.2 with h | ⟨g, o, e, hx, hc⟩
 · exact .inl h
 · exact .inr ⟨g, o, e, Nat.lt_of_lt_of_le hx hb.size, fun i hi j hj => (hb.cell (p := ⟨g, o + i * k + j, none⟩) (Nat.lt_of_lt_of_le hx hB)).trans (hc i hi j hj)⟩
theorem LOk.at {w : World} {k : Nat} {α : Type} {cells : α → List Value} {x : L α} (h : LOk w k cells x) {i : Nat} (hi : i < x.l.length) :
  ∃ g o, x.A = some ⟨g, o, none⟩ ∧ g < w.heap.size ∧ ∀ j, j < k → w.cell? ⟨g, o + i * k + j, none⟩ = (cells x.l[i])[j]? := by
 rcases h.2 with h | ⟨g, o, e, hx, hc⟩
 · rw [h] at hi; simp at hi
 · exact ⟨g, o, e, hx, fun j hj => hc i hi j hj⟩
structure FieldD where
 name : ByteArray
 width : Int
def FieldD.cells (f : FieldD) : List Value := [.string f.name, .int .i64 f.width]
structure HeaderD where
 name : ByteArray
 fields : L FieldD
def HeaderD.cells (h : HeaderD) : List Value := [.string h.name, h.fields.v]
structure RegD where
 name : ByteArray
 width : Int
 size : Int
def RegD.cells (r : RegD) : List Value := [.string r.name, .int .i64 r.width, .int .i64 r.size]
structure NodeD where
 op : Int
 n : Int
 w : Int
def NodeD.cells (x : NodeD) : List Value := [.int .i64 x.op, .int .i64 x.n, .int .i64 x.w]
structure StmtD where
 kind : Int
 dh : Int
 df : Int
 reg : Int
 hdr : Int
 index : L NodeD
 value : L NodeD
def StmtD.cells (s : StmtD) : List Value := [.int .i64 s.kind, .int .i64 s.dh, .int .i64 s.df, .int .i64 s.reg, .int .i64 s.hdr, s.index.v, s.value.v]
structure ActD where
 name : ByteArray
 params : L FieldD
 body : L StmtD
def ActD.cells (a : ActD) : List Value := [.string a.name, a.params.v, a.body.v]
structure KeyD where
 h : Int
 f : Int
 kind : Int
def KeyD.cells (k : KeyD) : List Value := [.int .i64 k.h, .int .i64 k.f, .int .i64 k.kind]
def icell (n : Int) : List Value := [.int .i64 n]
def ucell (n : Int) : List Value := [.int .u32 n]
structure TabD where
 name : ByteArray
 keys : L KeyD
 acts : L Int
 defA : Int
 args : L Int
 size : Int
def TabD.cells (t : TabD) : List Value := [.string t.name, t.keys.v, t.acts.v, .int .i64 t.defA, t.args.v, .int .i64 t.size]
structure CaseD where
 value : Int
 mask : Int
 next : Int
def CaseD.cells (c : CaseD) : List Value := [.int .u32 c.value, .int .u32 c.mask, .int .i64 c.next]
structure StateD where
 name : ByteArray
 extract : L Int
 sel : Bool
 oh : Int
 of : Int
 cases : L CaseD
 dflt : Int
def StateD.cells (s : StateD) : List Value := [.string s.name, s.extract.v, .bool s.sel, .int .i64 s.oh, .int .i64 s.of, s.cases.v, .int .i64 s.dflt]
inductive CtlD where
 | mk (kind table : Int) (cond : L NodeD) (th el : List CtlD) (tA eA : Option Addr) (tc ec : Nat)
def CtlD.kind : CtlD → Int | .mk k _ _ _ _ _ _ _ _ => k
def CtlD.table : CtlD → Int | .mk _ t _ _ _ _ _ _ _ => t
def CtlD.cond : CtlD → L NodeD | .mk _ _ c _ _ _ _ _ _ => c
def CtlD.th : CtlD → L CtlD | .mk _ _ _ t _ A _ c _ => ⟨t, A, c⟩
def CtlD.el : CtlD → L CtlD | .mk _ _ _ _ e _ A _ c => ⟨e, A, c⟩
def CtlD.cells (x : CtlD) : List Value := [.int .i64 x.kind, .int .i64 x.table, x.cond.v, x.th.v, x.el.v]
structure ProgD where
 name : ByteArray
 headers : L HeaderD
 metadata : L FieldD
 registers : L RegD
 actions : L ActD
 tables : L TabD
 states : L StateD
 control : L CtlD
 deparser : L Int
@[reducible] def ProgD.val (p : ProgD) : Value := .agg #[.string p.name, p.headers.v, p.metadata.v, p.registers.v, p.actions.v, p.tables.v, p.states.v, p.control.v, p.deparser.v]
def NameOk (s : ByteArray) : Prop := s.size ≤ maxLen
structure HeaderOk (w : World) (h : HeaderD) : Prop where
 name : NameOk h.name
 fields : LOk w 2 FieldD.cells h.fields
 names : ∀ f ∈ h.fields.l, NameOk f.name
structure StmtOk (w : World) (s : StmtD) : Prop where
 index : LOk w 3 NodeD.cells s.index
 value : LOk w 3 NodeD.cells s.value
structure ActOk (w : World) (a : ActD) : Prop where
 name : NameOk a.name
 params : LOk w 2 FieldD.cells a.params
 pnames : ∀ f ∈ a.params.l, NameOk f.name
 body : LOk w 7 StmtD.cells a.body
 stmts : ∀ s ∈ a.body.l, StmtOk w s
structure TabOk (w : World) (t : TabD) : Prop where
 name : NameOk t.name
 keys : LOk w 3 KeyD.cells t.keys
 acts : LOk w 1 icell t.acts
 args : LOk w 1 ucell t.args
structure StateOk (w : World) (s : StateD) : Prop where
 name : NameOk s.name
 extract : LOk w 1 icell s.extract
 cases : LOk w 3 CaseD.cells s.cases
mutual
def CtlOk (w : World) : CtlD → Prop
 | .mk _ _ cond th el tA eA tc ec => LOk w 3 NodeD.cells cond ∧ LOk w 5 CtlD.cells ⟨th, tA, tc⟩ ∧ LOk w 5 CtlD.cells ⟨el, eA, ec⟩ ∧ CtlsOk w th ∧ CtlsOk w el
def CtlsOk (w : World) : List CtlD → Prop
 | [] => True
 | x :: l => CtlOk w x ∧ CtlsOk w l
end
structure ProgOk (w : World) (p : ProgD) : Prop where
 name : NameOk p.name
 headers : LOk w 2 HeaderD.cells p.headers
 hdr : ∀ h ∈ p.headers.l, HeaderOk w h
 metadata : LOk w 2 FieldD.cells p.metadata
 mnames : ∀ f ∈ p.metadata.l, NameOk f.name
 registers : LOk w 3 RegD.cells p.registers
 rnames : ∀ r ∈ p.registers.l, NameOk r.name
 actions : LOk w 3 ActD.cells p.actions
 act : ∀ a ∈ p.actions.l, ActOk w a
 tables : LOk w 6 TabD.cells p.tables
 tab : ∀ t ∈ p.tables.l, TabOk w t
 states : LOk w 7 StateD.cells p.states
 state : ∀ s ∈ p.states.l, StateOk w s
 control : LOk w 5 CtlD.cells p.control
 ctl : CtlsOk w p.control.l
 deparser : LOk w 1 icell p.deparser
section
variable {w w' : World} (hb : Below w.heap.size w w')
theorem HeaderOk.below {h : HeaderD} (o : HeaderOk w h) (hb : Below w.heap.size w w') : HeaderOk w' h := ⟨o.name, o.fields.below hb (Nat.le_refl _), o.names⟩
theorem StmtOk.below {s : StmtD} (o : StmtOk w s) (hb : Below w.heap.size w w') : StmtOk w' s := ⟨o.index.below hb (Nat.le_refl _), o.value.below hb (Nat.le_refl _)⟩
theorem ActOk.below {a : ActD} (o : ActOk w a) (hb : Below w.heap.size w w') : ActOk w' a :=
 ⟨o.name, o.params.below hb (Nat.le_refl _), o.pnames, o.body.below hb (Nat.le_refl _), fun s hs => (o.stmts s hs).below hb⟩
theorem TabOk.below {t : TabD} (o : TabOk w t) (hb : Below w.heap.size w w') : TabOk w' t :=
 ⟨o.name, o.keys.below hb (Nat.le_refl _), o.acts.below hb (Nat.le_refl _), o.args.below hb (Nat.le_refl _)⟩
theorem StateOk.below {s : StateD} (o : StateOk w s) (hb : Below w.heap.size w w') : StateOk w' s :=
 ⟨o.name, o.extract.below hb (Nat.le_refl _), o.cases.below hb (Nat.le_refl _)⟩
mutual
theorem CtlOk.below {w w' : World} (hb : Below w.heap.size w w') : ∀ {x : CtlD}, CtlOk w x → CtlOk w' x
 | .mk _ _ _ _ _ _ _ _ _, o => by
  rw [CtlOk] at o ⊢
  exact ⟨o.1.below hb (Nat.le_refl _), o.2.1.below hb (Nat.le_refl _), o.2.2.1.below hb (Nat.le_refl _), CtlsOk.below hb o.2.2.2.1, CtlsOk.below hb o.2.2.2.2⟩
theorem CtlsOk.below {w w' : World} (hb : Below w.heap.size w w') : ∀ {l : List CtlD}, CtlsOk w l → CtlsOk w' l
 | [], _ => by rw [CtlsOk]; trivial
 | x :: l, o => by
  rw [CtlsOk] at o ⊢
  exact ⟨CtlOk.below hb o.1, CtlsOk.below hb o.2⟩
end
theorem ProgOk.below {p : ProgD} (o : ProgOk w p) (hb : Below w.heap.size w w') : ProgOk w' p :=
  ⟨o.name, o.headers.below hb (Nat.le_refl _), fun h hh => (o.hdr h hh).below hb, o.metadata.below hb (Nat.le_refl _), o.mnames, o.registers.below hb (Nat.le_refl _), o.rnames,
   o.actions.below hb (Nat.le_refl _), fun a ha => (o.act a ha).below hb, o.tables.below hb (Nat.le_refl _), fun t ht => (o.tab t ht).below hb, o.states.below hb (Nat.le_refl _),
   fun s hs => (o.state s hs).below hb, o.control.below hb (Nat.le_refl _), CtlsOk.below hb o.ctl, o.deparser.below hb (Nat.le_refl _)⟩
end
theorem NodeD.at {w : World} {x : L NodeD} (h : LOk w 3 NodeD.cells x) {i : Nat} (hi : i < x.l.length) :
  ∃ g o, x.A = some ⟨g, o, none⟩ ∧ w.cell? ⟨g, o + i * 3, none⟩ = some (.int .i64 x.l[i].op) ∧ w.cell? ⟨g, o + i * 3 + 1, none⟩ = some (.int .i64 x.l[i].n) ∧ w.cell? ⟨g, o + i * 3 + 2, none⟩ = some (.int .i64 x.l[i].w) := by
 obtain ⟨g, o, e, _, hc⟩ := h.at hi
 exact ⟨g, o, e, hc 0 (by omega), hc 1 (by omega), hc 2 (by omega)⟩
theorem FieldD.at {w : World} {x : L FieldD} (h : LOk w 2 FieldD.cells x) {i : Nat} (hi : i < x.l.length) :
  ∃ g o, x.A = some ⟨g, o, none⟩ ∧ w.cell? ⟨g, o + i * 2, none⟩ = some (.string x.l[i].name) ∧ w.cell? ⟨g, o + i * 2 + 1, none⟩ = some (.int .i64 x.l[i].width) := by
 obtain ⟨g, o, e, _, hc⟩ := h.at hi
 exact ⟨g, o, e, hc 0 (by omega), hc 1 (by omega)⟩
theorem HeaderD.at {w : World} {x : L HeaderD} (h : LOk w 2 HeaderD.cells x) {i : Nat} (hi : i < x.l.length) :
  ∃ g o, x.A = some ⟨g, o, none⟩ ∧ w.cell? ⟨g, o + i * 2, none⟩ = some (.string x.l[i].name) ∧ w.cell? ⟨g, o + i * 2 + 1, none⟩ = some (x.l[i].fields.v) := by
 obtain ⟨g, o, e, _, hc⟩ := h.at hi
 exact ⟨g, o, e, hc 0 (by omega), hc 1 (by omega)⟩
theorem RegD.at {w : World} {x : L RegD} (h : LOk w 3 RegD.cells x) {i : Nat} (hi : i < x.l.length) :
  ∃ g o, x.A = some ⟨g, o, none⟩ ∧ w.cell? ⟨g, o + i * 3, none⟩ = some (.string x.l[i].name) ∧ w.cell? ⟨g, o + i * 3 + 1, none⟩ = some (.int .i64 x.l[i].width) ∧ w.cell? ⟨g, o + i * 3 + 2, none⟩ = some (.int .i64 x.l[i].size) := by
 obtain ⟨g, o, e, _, hc⟩ := h.at hi
 exact ⟨g, o, e, hc 0 (by omega), hc 1 (by omega), hc 2 (by omega)⟩
theorem ActD.at {w : World} {x : L ActD} (h : LOk w 3 ActD.cells x) {i : Nat} (hi : i < x.l.length) :
  ∃ g o, x.A = some ⟨g, o, none⟩ ∧ w.cell? ⟨g, o + i * 3, none⟩ = some (.string x.l[i].name) ∧ w.cell? ⟨g, o + i * 3 + 1, none⟩ = some (x.l[i].params.v) ∧ w.cell? ⟨g, o + i * 3 + 2, none⟩ = some (x.l[i].body.v) := by
 obtain ⟨g, o, e, _, hc⟩ := h.at hi
 exact ⟨g, o, e, hc 0 (by omega), hc 1 (by omega), hc 2 (by omega)⟩
theorem KeyD.at {w : World} {x : L KeyD} (h : LOk w 3 KeyD.cells x) {i : Nat} (hi : i < x.l.length) :
  ∃ g o, x.A = some ⟨g, o, none⟩ ∧ w.cell? ⟨g, o + i * 3, none⟩ = some (.int .i64 x.l[i].h) ∧ w.cell? ⟨g, o + i * 3 + 1, none⟩ = some (.int .i64 x.l[i].f) ∧ w.cell? ⟨g, o + i * 3 + 2, none⟩ = some (.int .i64 x.l[i].kind) := by
 obtain ⟨g, o, e, _, hc⟩ := h.at hi
 exact ⟨g, o, e, hc 0 (by omega), hc 1 (by omega), hc 2 (by omega)⟩
theorem TabD.at {w : World} {x : L TabD} (h : LOk w 6 TabD.cells x) {i : Nat} (hi : i < x.l.length) :
  ∃ g o, x.A = some ⟨g, o, none⟩ ∧ w.cell? ⟨g, o + i * 6, none⟩ = some (.string x.l[i].name) ∧ w.cell? ⟨g, o + i * 6 + 1, none⟩ = some (x.l[i].keys.v) ∧ w.cell? ⟨g, o + i * 6 + 2, none⟩ = some (x.l[i].acts.v) ∧ w.cell? ⟨g, o + i * 6 + 3, none⟩ = some (.int .i64 x.l[i].defA) ∧ w.cell? ⟨g, o + i * 6 + 4, none⟩ = some (x.l[i].args.v) ∧ w.cell? ⟨g, o + i * 6 + 5, none⟩ = some (.int .i64 x.l[i].size) := by
 obtain ⟨g, o, e, _, hc⟩ := h.at hi
 exact ⟨g, o, e, hc 0 (by omega), hc 1 (by omega), hc 2 (by omega), hc 3 (by omega), hc 4 (by omega), hc 5 (by omega)⟩
theorem StateD.at {w : World} {x : L StateD} (h : LOk w 7 StateD.cells x) {i : Nat} (hi : i < x.l.length) :
  ∃ g o, x.A = some ⟨g, o, none⟩ ∧ w.cell? ⟨g, o + i * 7, none⟩ = some (.string x.l[i].name) ∧ w.cell? ⟨g, o + i * 7 + 1, none⟩ = some (x.l[i].extract.v) ∧ w.cell? ⟨g, o + i * 7 + 2, none⟩ = some (.bool x.l[i].sel) ∧ w.cell? ⟨g, o + i * 7 + 3, none⟩ = some (.int .i64 x.l[i].oh) ∧ w.cell? ⟨g, o + i * 7 + 4, none⟩ = some (.int .i64 x.l[i].of) ∧ w.cell? ⟨g, o + i * 7 + 5, none⟩ = some (x.l[i].cases.v) ∧ w.cell? ⟨g, o + i * 7 + 6, none⟩ = some (.int .i64 x.l[i].dflt) := by
 obtain ⟨g, o, e, _, hc⟩ := h.at hi
 exact ⟨g, o, e, hc 0 (by omega), hc 1 (by omega), hc 2 (by omega), hc 3 (by omega), hc 4 (by omega), hc 5 (by omega), hc 6 (by omega)⟩
theorem StmtD.at {w : World} {x : L StmtD} (h : LOk w 7 StmtD.cells x) {i : Nat} (hi : i < x.l.length) :
  ∃ g o, x.A = some ⟨g, o, none⟩ ∧ w.cell? ⟨g, o + i * 7, none⟩ = some (.int .i64 x.l[i].kind) ∧ w.cell? ⟨g, o + i * 7 + 1, none⟩ = some (.int .i64 x.l[i].dh) ∧ w.cell? ⟨g, o + i * 7 + 2, none⟩ = some (.int .i64 x.l[i].df) ∧ w.cell? ⟨g, o + i * 7 + 3, none⟩ = some (.int .i64 x.l[i].reg) ∧ w.cell? ⟨g, o + i * 7 + 4, none⟩ = some (.int .i64 x.l[i].hdr) ∧ w.cell? ⟨g, o + i * 7 + 5, none⟩ = some (x.l[i].index.v) ∧ w.cell? ⟨g, o + i * 7 + 6, none⟩ = some (x.l[i].value.v) := by
 obtain ⟨g, o, e, _, hc⟩ := h.at hi
 exact ⟨g, o, e, hc 0 (by omega), hc 1 (by omega), hc 2 (by omega), hc 3 (by omega), hc 4 (by omega), hc 5 (by omega), hc 6 (by omega)⟩
theorem CtlD.at {w : World} {x : L CtlD} (h : LOk w 5 CtlD.cells x) {i : Nat} (hi : i < x.l.length) :
  ∃ g o, x.A = some ⟨g, o, none⟩ ∧ w.cell? ⟨g, o + i * 5, none⟩ = some (.int .i64 x.l[i].kind) ∧ w.cell? ⟨g, o + i * 5 + 1, none⟩ = some (.int .i64 x.l[i].table) ∧ w.cell? ⟨g, o + i * 5 + 2, none⟩ = some (x.l[i].cond.v) ∧ w.cell? ⟨g, o + i * 5 + 3, none⟩ = some (x.l[i].th.v) ∧ w.cell? ⟨g, o + i * 5 + 4, none⟩ = some (x.l[i].el.v) := by
 obtain ⟨g, o, e, _, hc⟩ := h.at hi
 exact ⟨g, o, e, hc 0 (by omega), hc 1 (by omega), hc 2 (by omega), hc 3 (by omega), hc 4 (by omega)⟩
theorem icell_at {w : World} {x : L Int} (h : LOk w 1 icell x) {i : Nat} (hi : i < x.l.length) : ∃ g o, x.A = some ⟨g, o, none⟩ ∧ w.cell? ⟨g, o + i, none⟩ = some (.int .i64 x.l[i]) := by
 obtain ⟨g, o, e, _, hc⟩ := h.at hi
 exact ⟨g, o, e, by have := hc 0 (by omega); rw [Nat.mul_one] at this; exact this⟩
theorem ucell_at {w : World} {x : L Int} (h : LOk w 1 ucell x) {i : Nat} (hi : i < x.l.length) : ∃ g o, x.A = some ⟨g, o, none⟩ ∧ w.cell? ⟨g, o + i, none⟩ = some (.int .u32 x.l[i]) := by
 obtain ⟨g, o, e, _, hc⟩ := h.at hi
 exact ⟨g, o, e, by have := hc 0 (by omega); rw [Nat.mul_one] at this; exact this⟩
def isLet (c : Int) : Bool := (decide (97 ≤ c) && decide (c ≤ 122)) || (decide (65 ≤ c) && decide (c ≤ 90))
def isDig (c : Int) : Bool := decide (48 ≤ c) && decide (c ≤ 57)
def isWord (c : Int) : Bool := isLet c || isDig c || c == 95
def isAlnum (c : Int) : Bool := isLet c || isDig c
def isHexd (c : Int) : Bool := isDig c || (decide (97 ≤ c) && decide (c ≤ 102))
theorem isLetter_any (c : Int) (w : World) :
  Calls Tryz.prog 192 #[.int .u8 c] w fun e w' => e = .returned (.bool (isLet c)) ∧ w = w' := by
 go_enter Tryz.func192, Tryz.ntmps192
 go_wp2
 all_goals (go_ret; exact ⟨ret_bool (by rw [Bool.eq_iff_iff]; simp [isLet]; omega), rfl⟩)
theorem isDigit_any (c : Int) (w : World) :
  Calls Tryz.prog 194 #[.int .u8 c] w fun e w' => e = .returned (.bool (isDig c)) ∧ w = w' := by
 go_enter Tryz.func194, Tryz.ntmps194
 go_wp2
 all_goals (go_ret; exact ⟨ret_bool (by rw [Bool.eq_iff_iff]; simp [isDig]; omega), rfl⟩)
theorem rletter_any (c : Int) (w : World) :
  Calls Tryz.prog 136 #[.int .u8 c] w fun e w' => e = .returned (.bool (isLet c)) ∧ w = w' := by
 go_enter Tryz.func136, Tryz.ntmps136
 go_wp2
 all_goals (go_ret; exact ⟨ret_bool (by rw [Bool.eq_iff_iff]; simp [isLet]; omega), rfl⟩)
theorem word1_any (c : Int) (w : World) :
  Calls Tryz.prog 210 #[.int .u8 c] w fun e w' => e = .returned (.bool (isWord c)) ∧ w = w' := by
 go_enter Tryz.func210, Tryz.ntmps210
 go_wp2_with (first
  | (go_at_call 192; refine (isLetter_any _ _).mono ?_; rintro e w' ⟨rfl, rfl⟩)
  | (go_at_call 194; refine (isDigit_any _ _).mono ?_; rintro e w' ⟨rfl, rfl⟩))
 all_goals (go_ret; exact ⟨ret_bool (by rw [Bool.eq_iff_iff]; simp [isWord, *]), rfl⟩)
def ext (p : Int → Bool) : List UInt8 → Nat
 | [] => 0
 | c :: l => if p c.toNat then ext p l + 1 else 0
theorem ext_le (p : Int → Bool) : ∀ l, ext p l ≤ l.length
 | [] => Nat.le_refl _
 | c :: l => by unfold ext; split <;> simp; exact ext_le p l
theorem ext_all (p : Int → Bool) : ∀ l (i : Nat) (h : i < ext p l), p ((l[i]'(Nat.lt_of_lt_of_le h (ext_le p l))).toNat : Nat) = true
 | [], i, h => absurd h (Nat.not_lt_zero _)
 | c :: l, i, h => by
  unfold ext at h
  split at h
  ·
   rename_i hc
   cases i with
   | zero => simpa using hc
   | succ i => simpa using ext_all p l i (by omega)
  · omega
theorem ext_stop (p : Int → Bool) : ∀ l (h : ext p l < l.length), p ((l[ext p l]'h).toNat : Nat) = false
 | [], h => absurd h (Nat.not_lt_zero _)
 | c :: l, h => by
  by_cases hc : p c.toNat = true
  ·
   have e : ext p (c :: l) = ext p l + 1 := by rw [ext, if_pos hc]
   have h' : ext p l < l.length := by rw [e] at h; simpa using h
   have := ext_stop p l h'
   simp only [e]
   simpa using this
  ·
   have e : ext p (c :: l) = 0 := by rw [ext, if_neg hc]
   simp only [e]
   simpa using hc
theorem extent_any (F : FuncId) (p : Int → Bool) (s : ByteArray) (w : World) (hs : s.size ≤ maxLen)
  (hcf : ∀ (c : Int) (W : World), (callFunc F #[.int .u8 c]).run Tryz.prog W = .ok (.enter F #[.int .u8 c]) W)
  (hF : Hid (∀ (c : Int) (W : World), Calls Tryz.prog F #[.int .u8 c] W fun e w' => e = .returned (.bool (p c)) ∧ W = w')) :
  Calls Tryz.prog 125 #[.string s, .func (.func F) #[] #[]] w fun e w' => e = .returned (.int .i64 (ext p s.data.toList)) ∧ w = w' := by
 unfold maxLen at hs
 go_enter Tryz.func125, Tryz.ntmps125
 go_wp2
 go_loop [5] (fun i => ∃ k : Nat, k ≤ ext p s.data.toList ∧ i = .int .i64 k) (fun i => s.size - (intOf i).toNat)
 case atStart => exact ⟨0, Nat.zero_le _, rfl⟩
 case round =>
  obtain ⟨k, hk, rfl⟩ := hrel
  have hle : ext p s.data.toList ≤ s.size := ext_le p s.data.toList
  by_cases hlt : k < s.size
  ·
   have H1 := hi_ (ext_stop p s.data.toList)
   have H2 := hi_ (ext_all p s.data.toList)
   by_cases hb : p ((s[k]).toNat : Nat) = true
   all_goals
    have HB := hi_ hb
    clear hb
    go_wp2_with fail
    refine (hF.out _ _).mono ?_
    rintro e w' ⟨rfl, rfl⟩
    have hb := HB.out
    go_wp2
   ·
    go_round
    case rel =>
     refine ⟨k + 1, ?_, by go_num⟩
     rcases Nat.lt_or_ge k (ext p s.data.toList) with h | h
     · exact h
     ·
      exfalso
      have e : ext p s.data.toList = k := by omega
      have := H1.out (by rw [e]; exact hlt)
      simp only [e] at this
      have hb' := HB.out
      rw [show (s[k] : UInt8) = s.data.toList[k]'hlt from rfl] at hb'
      rw [this] at hb'
      cases hb'
    case measure => simp [intOf]; omega
   ·
    go_ret
    refine ⟨ret_int ?_, rfl⟩
    rcases Nat.lt_or_ge k (ext p s.data.toList) with h | h
    · exact absurd (H2.out k h) HB.out
    · omega
  ·
   go_wp2
   go_ret
   exact ⟨ret_int (by omega), rfl⟩
theorem list_one (s : ByteArray) (h0 : 0 < s.size) : s.data.toList = s[0] :: s.data.toList.drop 1 := by
 have := List.drop_eq_getElem_cons (l := s.data.toList) (i := 0) h0
 rw [List.drop_zero] at this
 exact this
def identM (l : List UInt8) : Bool := match l with
 | [] => false
 | c :: _ => decide (l.length ≤ 16) && isLet c.toNat && decide (ext isWord l = l.length)
theorem identM_head (s : ByteArray) (h0 : 0 < s.size) : identM s.data.toList = (decide (s.size ≤ 16) && isLet s[0].toNat && decide (ext isWord s.data.toList = s.size)) := by
 have e : s.size = s.data.toList.length := rfl
 rw [e]
 generalize hl : s.data.toList = l
 rw [list_one s h0] at hl
 subst hl
 rfl
theorem ext_id (s : ByteArray) (w : World) (hs : s.size ≤ maxLen) :
  Calls Tryz.prog 125 #[.string s, .func (.func 210) #[] #[]] w fun e w' => e = .returned (.int .i64 (ext isWord s.data.toList)) ∧ w = w' :=
 extent_any _ isWord s w hs (fun _ _ => by kernel_rfl) (hi_ word1_any)
theorem isIdent_any (s : ByteArray) (w : World) (hs : s.size ≤ maxLen) :
  Calls Tryz.prog 149 #[.string s] w fun e w' => e = .returned (.bool (identM s.data.toList)) ∧ w = w' := by
 have HS := hi_ hs
 unfold maxLen at hs
 rcases Nat.eq_zero_or_pos s.size with hz | h0
 ·
  have hz' : s.data.toList = [] := List.eq_nil_of_length_eq_zero hz
  have HZ := hi_ hz'
  have h1 : ((s.size : Int) == 0) = true := by rw [beq_iff_eq]; omega
  clear hz hz'
  go_enter Tryz.func149, Tryz.ntmps149
  go_wp2
  go_ret
  exact ⟨by rw [HZ.out]; rfl, rfl⟩
 ·
  have h1 : ((s.size : Int) == 0) = false := by rw [beq_eq_false_iff_ne]; omega
  have HI := hi_ (identM_head s h0)
  by_cases h16 : 16 < s.size
  ·
   go_enter Tryz.func149, Tryz.ntmps149
   go_wp2
   go_ret
   exact ⟨by rw [HI.out, show decide (s.size ≤ 16) = false from by simp; omega]; rfl, rfl⟩
  ·
   have H16 : Hid (decide (s.size ≤ 16) = true) := hi_ (by simp; omega)
   rcases hl : isLet (s[0].toNat : Int) with _ | _
   ·
    have HL := hi_ hl
    clear hl
    go_enter Tryz.func149, Tryz.ntmps149
    go_wp2_with fail
    refine (isLetter_any _ _).mono ?_
    rintro e w' ⟨rfl, rfl⟩
    have hl := HL.out
    go_wp2
    go_ret
    exact ⟨by rw [HI.out, H16.out, HL.out]; rfl, rfl⟩
   ·
    have HL := hi_ hl
    clear hl
    go_enter Tryz.func149, Tryz.ntmps149
    go_wp2_with fail
    refine (isLetter_any _ _).mono ?_
    rintro e w' ⟨rfl, rfl⟩
    have hl := HL.out
    go_wp2_with fail
    refine (ext_id s _ HS.out).mono ?_
    rintro e w' ⟨rfl, rfl⟩
    go_wp2
    go_ret
    refine ⟨ret_bool ?_, rfl⟩
    rw [HI.out, H16.out, HL.out]
    show ((ext isWord s.data.toList : Int) == (s.size : Int)) = decide (ext isWord s.data.toList = s.size)
    rw [Bool.eq_iff_iff, beq_iff_eq, decide_eq_true_iff]; omega
theorem require_ok (p i s : Int) (w : World) :
  Calls Tryz.prog 80 #[.int .i64 0, .int .i64 p, .int .i64 i, .int .i64 s] w fun e w' => e = .returned (.tuple #[]) ∧ w = w' := by
 go_enter Tryz.func80, Tryz.ntmps80
 go_wp2
 go_end0
 exact ⟨rfl, rfl⟩
theorem require_bad (c p i s : Int) (w : World) (h : (c == 0) = false) :
  Calls Tryz.prog 80 #[.int .i64 c, .int .i64 p, .int .i64 i, .int .i64 s] w fun e w' =>
   e = .panicked [{ v := .iface 108 (.agg #[.int .i64 c, .int .i64 p, .int .i64 i, .int .i64 s]), recovered := false }] ∧ w = w' := by
 go_enter Tryz.func80, Tryz.ntmps80
 go_wp2
 exact ⟨rfl, rfl, rfl⟩
theorem when_any (b : Bool) (c : Int) (w : World) :
  Calls Tryz.prog 81 #[.bool b, .int .i64 c] w fun e w' => e = .returned (.int .i64 (if b = true then c else 0)) ∧ w = w' := by
 cases b
 ·
  go_enter Tryz.func81, Tryz.ntmps81
  go_wp2
  go_ret
  exact ⟨rfl, rfl⟩
 ·
  go_enter Tryz.func81, Tryz.ntmps81
  go_wp2
  go_ret
  exact ⟨rfl, rfl⟩
def ident (s : ByteArray) : Bool := identM s.data.toList
theorem identifier_any (s : ByteArray) (w : World) (hs : s.size ≤ maxLen) :
  Calls Tryz.prog 82 #[.string s] w fun e w' => e = .returned (.bool (!ident s)) ∧ w = w' := by
 go_enter Tryz.func82, Tryz.ntmps82
 go_wp2_with fail
 refine (isIdent_any s _ hs).mono ?_
 rintro e w1 ⟨rfl, rfl⟩
 go_wp2
 go_ret
 exact ⟨rfl, rfl⟩
theorem widthInvalid_any (n : Int) (w : World) :
  Calls Tryz.prog 89 #[.int .i64 n] w fun e w' => e = .returned (.bool (decide (n < 1) || decide (32 < n))) ∧ w = w' := by
 by_cases h : n < 1
 ·
  have H := hi_ h
  go_enter Tryz.func89, Tryz.ntmps89
  go_wp2
  go_ret
  exact ⟨by rw [decide_eq_true H.out]; rfl, rfl⟩
 ·
  have H := hi_ h
  go_enter Tryz.func89, Tryz.ntmps89
  go_wp2
  go_ret
  exact ⟨by rw [decide_eq_false (show ¬ n < 1 by have := H.out; omega)]; rfl, rfl⟩
theorem fieldName_any (f : FieldD) (w : World) :
  Calls Tryz.prog 88 #[.agg #[.string f.name, .int .i64 f.width]] w fun e w' => e = .returned (.string f.name) ∧ Below w.heap.size w w' := by
 go_enter Tryz.func88, Tryz.ntmps88
 go_wp2
 go_ret
 exact ⟨rfl, (Below.refl _ _).alloc (Nat.le_refl _) _⟩
theorem actionName_any (f : ActD) (w : World) :
  Calls Tryz.prog 94 #[.agg #[.string f.name, f.params.v, f.body.v]] w fun e w' => e = .returned (.string f.name) ∧ Below w.heap.size w w' := by
 go_enter Tryz.func94, Tryz.ntmps94
 go_wp2
 go_ret
 exact ⟨rfl, (Below.refl _ _).alloc (Nat.le_refl _) _⟩
theorem tableName_any (t : TabD) (w : World) :
  Calls Tryz.prog 97 #[.agg #[.string t.name, t.keys.v, t.acts.v, .int .i64 t.defA, t.args.v, .int .i64 t.size]] w fun e w' => e = .returned (.string t.name) ∧ Below w.heap.size w w' := by
 go_enter Tryz.func97, Tryz.ntmps97
 go_wp2
 go_ret
 exact ⟨rfl, (Below.refl _ _).alloc (Nat.le_refl _) _⟩
theorem headerName_any (f : HeaderD) (w : World) :
  Calls Tryz.prog 84 #[.agg #[.string f.name, f.fields.v]] w fun e w' => e = .returned (.string f.name) ∧ Below w.heap.size w w' := by
 go_enter Tryz.func84, Tryz.ntmps84
 go_wp2
 go_ret
 exact ⟨rfl, (Below.refl _ _).alloc (Nat.le_refl _) _⟩
theorem registerName_any (f : RegD) (w : World) :
  Calls Tryz.prog 91 #[.agg #[.string f.name, .int .i64 f.width, .int .i64 f.size]] w fun e w' => e = .returned (.string f.name) ∧ Below w.heap.size w w' := by
 go_enter Tryz.func91, Tryz.ntmps91
 go_wp2
 go_ret
 exact ⟨rfl, (Below.refl _ _).alloc (Nat.le_refl _) _⟩
def okW (n : Int) : Bool := decide (1 ≤ n) && decide (n ≤ 32)
theorem valid1_any (g c : Nat) (n : Int) (w : World) (h : w.cell? ⟨g, 0, none⟩ = some (.int .i64 n)) :
    Calls Tryz.prog 212 #[.slice (some ⟨g, 0, none⟩) 1 c] w fun e w' => e = .returned (.bool (okW n)) ∧ w = w' := by
  have hcase : (okW n = true ∧ ¬ n < 1 ∧ ¬ 32 < n) ∨ (okW n = false ∧ n < 1) ∨ (okW n = false ∧ ¬ n < 1 ∧ 32 < n) := by
    unfold okW
    rcases Int.lt_or_le n 1 with h1 | h1
    · exact .inr (.inl ⟨by simp; omega, h1⟩)
    · rcases Int.lt_or_le 32 n with h2 | h2
      · exact .inr (.inr ⟨by simp; omega, by omega, h2⟩)
      · exact .inl ⟨by simp; omega, by omega, by omega⟩
  rcases hcase with ⟨hv, h1, h2⟩ | ⟨hv, h1⟩ | ⟨hv, h1, h2⟩
  all_goals
    have HV := hi_ hv
    clear hv
    go_enter Tryz.func212, Tryz.ntmps212
    go_wp2
    go_loop [4, 7] (fun _ iv => ∃ k : Nat, k ≤ 1 ∧ iv = .int .i64 k ∧ (k = 1 → okW n = true)) (fun _ i => 1 - (intOf i).toNat)
    case atStart => exact ⟨0, by omega, rfl, fun h => by omega⟩
    case round =>
      obtain ⟨k, hk, rfl, hk1⟩ := hrel
      rcases (show k = 0 ∨ k = 1 by omega) with rfl | rfl
      · clear hk1
        go_wp2
        first
          | (go_round
             case rel => exact ⟨1, by omega, by go_num, fun _ => HV.out⟩
             case measure => simp [intOf])
          | (go_ret; exact ⟨by rw [HV.out]; rfl, rfl⟩)
      · have HK := hi_ (hk1 rfl)
        clear hk1
        go_wp2
        go_ret
        exact ⟨by rw [HK.out]; rfl, rfl⟩
def maskM (n : Int) : Nat := if okW n = true then 2 ^ n.toNat - 1 else 0
theorem maskM_shift (n : Int) (h1 : 1 ≤ n) (h2 : n ≤ 32) : (4294967295 : Int) / 2 ^ (32 - n).toNat = (maskM n : Int) := by
 obtain ⟨m, rfl, hm⟩ : ∃ m : Nat, n = m ∧ m ≤ 32 := ⟨n.toNat, by omega, by omega⟩
 have h : ∀ m : Fin 33, 1 ≤ m.1 → (4294967295 : Int) / 2 ^ (32 - (m.1 : Int)).toNat = (maskM m.1 : Int) := by decide +kernel
 exact h ⟨m, by omega⟩ (by show 1 ≤ m; omega)
theorem mask_any (n : Int) (w : World) :
  Calls Tryz.prog 153 #[.int .i64 n] w fun e w' => e = .returned (.int .u32 (maskM n)) ∧ Below w.heap.size w w' := by
 have hb : Below w.heap.size w (w.alloc (.cells #[.int .i64 n] 3)) := (Below.refl _ _).alloc (Nat.le_refl _) _
 cases hv : okW n
 ·
  have HM := hi_ (show maskM n = 0 by rw [maskM, hv]; rfl)
  have HV := hi_ hv
  clear hv
  go_enter Tryz.func153, Tryz.ntmps153
  go_wp2_with fail
  refine (valid1_any w.heap.size 1 n _ (by simp)).mono ?_
  rintro e w1 ⟨rfl, rfl⟩
  rw [HV.out]
  go_wp2
  go_ret
  exact ⟨by rw [HM.out]; rfl, hb⟩
 ·
  have HV := hi_ hv
  have hr : 1 ≤ n ∧ n ≤ 32 := by simpa [okW] using hv
  have h1 := hr.1
  have h2 := hr.2
  have HM := hi_ (maskM_shift n hr.1 hr.2)
  clear hv hr
  go_enter Tryz.func153, Tryz.ntmps153
  go_wp2_with fail
  refine (valid1_any w.heap.size 1 n _ (by simp)).mono ?_
  rintro e w1 ⟨rfl, rfl⟩
  rw [HV.out]
  go_wp2
  go_ret
  exact ⟨by rw [← HM.out]; rfl, hb⟩
def fitsM (v n : Int) : Bool := okW n && decide (v ≤ maskM n)
theorem fits_any (v n : Int) (w : World) :
  Calls Tryz.prog 224 #[.int .u32 v, .int .i64 n] w fun e w' => e = .returned (.bool (fitsM v n)) ∧ Below w.heap.size w w' := by
 have hb : Below w.heap.size w (w.alloc (.cells #[.int .i64 n] 3)) := (Below.refl _ _).alloc (Nat.le_refl _) _
 cases hv : okW n
 ·
  have HV := hi_ hv
  clear hv
  go_enter Tryz.func224, Tryz.ntmps224
  go_wp2_with fail
  refine (valid1_any w.heap.size 1 n _ (by simp)).mono ?_
  rintro e w1 ⟨rfl, rfl⟩
  rw [HV.out]
  go_wp2
  go_ret
  exact ⟨by rw [fitsM, HV.out]; rfl, hb⟩
 ·
  have HV := hi_ hv
  clear hv
  go_enter Tryz.func224, Tryz.ntmps224
  go_wp2_with fail
  refine (valid1_any w.heap.size 1 n _ (by simp)).mono ?_
  rintro e w1 ⟨rfl, rfl⟩
  rw [HV.out]
  go_wp2_with fail
  refine (mask_any n _).mono ?_
  rintro e w2 ⟨rfl, hb2⟩
  go_wp2
  go_ret
  exact ⟨by rw [fitsM, HV.out]; rfl, hb.trans (hb2.mono hb.size)⟩
def noField : FieldD := ⟨⟨#[]⟩, 0⟩
def noHeader : HeaderD := ⟨⟨#[]⟩, ⟨[], none, 0⟩⟩
def fieldAt (x : L FieldD) (i : Int) : FieldD := if i < 0 then noField else (x.l[i.toNat]?).getD noField
def headerAt (x : L HeaderD) (i : Int) : HeaderD := if i < 0 then noHeader else (x.l[i.toNat]?).getD noHeader
theorem atField_any (x : L FieldD) (i : Int) (w : World) (h : LOk w 2 FieldD.cells x) :
  Calls Tryz.prog 254 #[x.v, .int .i64 i] w fun e w' =>
   e = .returned (.agg #[.string (fieldAt x i).name, .int .i64 (fieldAt x i).width]) ∧ Below w.heap.size w w' := by
 obtain ⟨l, A0, c0⟩ := x
 have HX := hi_ h
 clear h
 simp only [L.v] at *
 have hca := @World.cell?_alloc_some
 by_cases h1 : i < 0
 ·
  have HR := hi_ (show fieldAt ⟨l, A0, c0⟩ i = noField by rw [fieldAt, if_pos h1])
  go_enter Tryz.func254, Tryz.ntmps254
  go_wp2
  refine bodyPost_ret (v := .agg #[.string noField.name, .int .i64 noField.width]) (by simp [results, Tryz.results254, go_sem, noField]) rfl ⟨by rw [HR.out], below2 _ _ _⟩
 ·
  obtain ⟨k, rfl⟩ : ∃ k : Nat, i = k := ⟨i.toNat, by omega⟩
  by_cases h2 : k < l.length
  ·
   obtain ⟨g, o, rfl, d0, d1⟩ := FieldD.at HX.out h2
   simp only at d0 d1
   have HR := hi_ (show fieldAt ⟨l, some ⟨g, o, none⟩, c0⟩ k = l[k] by rw [fieldAt, if_neg h1]; simp [h2])
   generalize l[k] = y at *
   go_enter Tryz.func254, Tryz.ntmps254
   go_wp2
   refine bodyPost_ret (v := .agg #[.string y.name, .int .i64 y.width]) (by simp [results, Tryz.results254, go_sem]) rfl ⟨by rw [HR.out], below2 _ _ _⟩
  ·
   have HR := hi_ (show fieldAt ⟨l, A0, c0⟩ k = noField by rw [fieldAt, if_neg h1]; simp [List.getElem?_eq_none (Nat.le_of_not_lt h2)])
   go_enter Tryz.func254, Tryz.ntmps254
   go_wp2
   refine bodyPost_ret (v := .agg #[.string noField.name, .int .i64 noField.width]) (by simp [results, Tryz.results254, go_sem, noField]) rfl ⟨by rw [HR.out], below2 _ _ _⟩
theorem atHeader_any (x : L HeaderD) (i : Int) (w : World) (h : LOk w 2 HeaderD.cells x) :
  Calls Tryz.prog 273 #[x.v, .int .i64 i] w fun e w' =>
   e = .returned (.agg #[.string (headerAt x i).name, (headerAt x i).fields.v]) ∧ Below w.heap.size w w' := by
 obtain ⟨l, A0, c0⟩ := x
 have HX := hi_ h
 clear h
 simp only [L.v] at *
 have hca := @World.cell?_alloc_some
 by_cases h1 : i < 0
 ·
  have HR := hi_ (show headerAt ⟨l, A0, c0⟩ i = noHeader by rw [headerAt, if_pos h1])
  go_enter Tryz.func273, Tryz.ntmps273
  go_wp2
  refine bodyPost_ret (v := .agg #[.string noHeader.name, noHeader.fields.v]) (by simp [results, Tryz.results273, go_sem, noHeader]) rfl ⟨by rw [HR.out], below2 _ _ _⟩
 ·
  obtain ⟨k, rfl⟩ : ∃ k : Nat, i = k := ⟨i.toNat, by omega⟩
  by_cases h2 : k < l.length
  ·
   obtain ⟨g, o, rfl, d0, d1⟩ := HeaderD.at HX.out h2
   simp only at d0 d1
   have HR := hi_ (show headerAt ⟨l, some ⟨g, o, none⟩, c0⟩ k = l[k] by rw [headerAt, if_neg h1]; simp [h2])
   generalize l[k] = y at *
   obtain ⟨nm, ⟨fl, fA, fc⟩⟩ := y
   simp only [L.v] at d1
   go_enter Tryz.func273, Tryz.ntmps273
   go_wp2
   refine bodyPost_ret (v := .agg #[.string nm, .slice fA fl.length fc]) (by simp [results, Tryz.results273, go_sem]) rfl ⟨by rw [HR.out], below2 _ _ _⟩
  ·
   have HR := hi_ (show headerAt ⟨l, A0, c0⟩ k = noHeader by rw [headerAt, if_neg h1]; simp [List.getElem?_eq_none (Nat.le_of_not_lt h2)])
   go_enter Tryz.func273, Tryz.ntmps273
   go_wp2
   refine bodyPost_ret (v := .agg #[.string noHeader.name, noHeader.fields.v]) (by simp [results, Tryz.results273, go_sem, noHeader]) rfl ⟨by rw [HR.out], below2 _ _ _⟩
def fieldsM (p : ProgD) (h : Int) : L FieldD := if h = -1 then p.metadata else (headerAt p.headers h).fields
theorem fieldsM_ok {w : World} {p : ProgD} (o : ProgOk w p) (h : Int) : LOk w 2 FieldD.cells (fieldsM p h) := by
 unfold fieldsM
 split
 · exact o.metadata
 ·
  unfold headerAt
  split
  · exact ⟨Nat.zero_le _, .inl rfl⟩
  ·
   rcases hk : p.headers.l[h.toNat]? with _ | y
   · exact ⟨Nat.zero_le _, .inl rfl⟩
   · exact (o.hdr y (List.mem_of_getElem? hk)).fields
def widthAt (p : ProgD) (h f : Int) : Int := if okW (fieldAt (fieldsM p h) f).width = true then (fieldAt (fieldsM p h) f).width else 0
theorem mask_zero (n : Int) : ((maskM n : Int) == 0) = !okW n := by
 unfold maskM
 cases hv : okW n
 · rfl
 ·
  have hr : 1 ≤ n ∧ n ≤ 32 := by simpa [okW] using hv
  have h2 : 2 ^ 1 ≤ 2 ^ n.toNat := Nat.pow_le_pow_right (by omega) (by omega)
  simp only [if_true, Bool.not_true, beq_eq_false_iff_ne]
  omega
theorem hdr_field (s : ByteArray) (A : Option Addr) (n c : Nat) (w : World) : (Instr.field 98 (.agg #[.string s, .slice A n c]) 1).run Tryz.prog w = .ok (.slice A n c) w := by kernel_rfl
theorem fld_field (s : ByteArray) (n : Int) (w : World) : (Instr.field 104 (.agg #[.string s, .int .i64 n]) 1).run Tryz.prog w = .ok (.int .i64 n) w := by kernel_rfl
theorem fields_any (p : ProgD) (h : Int) (w : World) (o : ProgOk w p) :
  Calls Tryz.prog 255 #[p.val, .int .i64 h] w fun e w' => e = .returned (fieldsM p h).v ∧ Below w.heap.size w w' := by
 have HO := hi_ o
 have hb : Below w.heap.size w (w.alloc (.cells #[.string p.name, p.headers.v, p.metadata.v, p.registers.v, p.actions.v, p.tables.v, p.states.v, p.control.v, p.deparser.v] 31)) := (Below.refl _ _).alloc (Nat.le_refl _) _
 have HB := hi_ hb
 clear o hb
 by_cases h1 : h = -1
 ·
  have HR := hi_ (show fieldsM p h = p.metadata by rw [fieldsM, if_pos h1])
  subst h1
  simp only [ProgD.val, L.v]
  go_enter Tryz.func255, Tryz.ntmps255
  go_wp2
  go_ret
  exact ⟨by rw [HR.out]; rfl, HB.out⟩
 ·
  have HR := hi_ (show fieldsM p h = (headerAt p.headers h).fields by rw [fieldsM, if_neg h1])
  have h1' : (h == -1) = false := bf_ h1
  simp only [ProgD.val, L.v]
  go_enter Tryz.func255, Tryz.ntmps255
  go_wp2_with fail
  refine (atHeader_any p.headers h _ (HO.out.headers.below HB.out (Nat.le_refl _))).mono ?_
  rintro e w1 ⟨rfl, hb1⟩
  have hfd := hdr_field
  have HR2 := hi_ (show (fieldsM p h).v = (headerAt p.headers h).fields.v by rw [HR.out])
  clear HR
  generalize headerAt p.headers h = y at *
  obtain ⟨nm, ⟨fl, fA, fc⟩⟩ := y
  simp only [L.v] at *
  go_wp2
  go_ret
  exact ⟨by rw [HR2.out]; rfl, HB.out.trans (hb1.mono HB.out.size)⟩
theorem width_any (p : ProgD) (h f : Int) (w : World) (o : ProgOk w p) :
  Calls Tryz.prog 218 #[p.val, .agg #[.int .i64 h, .int .i64 f]] w fun e w' => e = .returned (.int .i64 (widthAt p h f)) ∧ Below w.heap.size w w' := by
 have HO := hi_ o
 obtain ⟨W, hW⟩ : ∃ W, W = (w.alloc (.cells #[.string p.name, p.headers.v, p.metadata.v, p.registers.v, p.actions.v, p.tables.v, p.states.v, p.control.v, p.deparser.v] 31)).alloc (.cells #[.int .i64 h, .int .i64 f] 61) := ⟨_, rfl⟩
 have HB : Hid (Below w.heap.size w W) := hi_ (by rw [hW]; exact below2 _ _ _)
 have hp : ∀ w', Below W.heap.size W w' → (w'.cell? ⟨w.heap.size, 0, none⟩ = some (.string p.name) ∧ w'.cell? ⟨w.heap.size, 1, none⟩ = some p.headers.v ∧ w'.cell? ⟨w.heap.size, 2, none⟩ = some p.metadata.v ∧
   w'.cell? ⟨w.heap.size, 3, none⟩ = some p.registers.v ∧ w'.cell? ⟨w.heap.size, 4, none⟩ = some p.actions.v ∧ w'.cell? ⟨w.heap.size, 5, none⟩ = some p.tables.v ∧ w'.cell? ⟨w.heap.size, 6, none⟩ = some p.states.v ∧
   w'.cell? ⟨w.heap.size, 7, none⟩ = some p.control.v ∧ w'.cell? ⟨w.heap.size, 8, none⟩ = some p.deparser.v) ∧
   w'.cell? ⟨w.heap.size + 1, 0, none⟩ = some (.int .i64 h) ∧ w'.cell? ⟨w.heap.size + 1, 1, none⟩ = some (.int .i64 f) := by
  intro w' hb
  subst hW
  refine ⟨⟨?_, ?_, ?_, ?_, ?_, ?_, ?_, ?_, ?_⟩, ?_, ?_⟩ <;> exact below_cell hb (by simp [L.v])
 have hfd := fld_field
 have H0 := hi_ (Below.refl W.heap.size W)
 clear o
 simp only [ProgD.val, L.v] at *
 go_enter Tryz.func218, Tryz.ntmps218
 go_wp2
 rw [← hW]
 clear hW
 go_region_held3 (fun w' => Below W.heap.size W w') (first | exact H0.out | exact below_drew H0.out | (exact below_step (by assumption) (by assumption)))
  (first | (go_at_call 255; refine (fields_any p h _ (HO.out.below (below_step HB.out (by assumption)))).mono ?_; rintro e w1 ⟨rfl, hb1⟩) | (go_at_call 254; refine (atField_any (fieldsM p h) f _ ((fieldsM_ok HO.out h).below (below_step HB.out (by assumption)) (Nat.le_refl _))).mono ?_; rintro e w1 ⟨rfl, hb1⟩))
 have HB2 : Hid (Below w.heap.size w _) := hi_ (below_step HB.out (by assumption))
 clear hp
 have HR : Hid (widthAt p h f = if okW (fieldAt (fieldsM p h) f).width = true then (fieldAt (fieldsM p h) f).width else 0) := hi_ rfl
 generalize (fieldAt (fieldsM p h) f).width = n at *
 have hz := mask_zero n
 go_wp2_with fail
 refine (mask_any n _).mono ?_
 rintro e w3 ⟨rfl, hb3⟩
 have HB3 := hi_ (below_step HB2.out hb3)
 clear hb3
 cases hv : okW n
 ·
  rw [hv] at hz
  have HR2 := hi_ (show widthAt p h f = 0 by rw [HR.out, hv]; rfl)
  go_wp2
  go_ret
  exact ⟨by rw [HR2.out]; rfl, HB3.out⟩
 ·
  rw [hv] at hz
  have HR2 := hi_ (show widthAt p h f = n by rw [HR.out, hv]; rfl)
  go_wp2
  go_ret
  exact ⟨by rw [HR2.out]; rfl, HB3.out⟩
def firstE {α : Type} : Nat → (Nat → Option α) → Option α
 | 0, _ => none
 | n + 1, f => match firstE n f with
  | some r => some r
  | none => f n
theorem firstE_none {α : Type} {f : Nat → Option α} : ∀ {n : Nat}, (∀ j, j < n → f j = none) → firstE n f = none
 | 0, _ => rfl
 | n + 1, h => by rw [firstE, firstE_none (fun j hj => h j (by omega))]; exact h n (by omega)
theorem firstE_some {α : Type} {f : Nat → Option α} {r : α} {i : Nat} : ∀ {n : Nat}, i < n → (∀ j, j < i → f j = none) → f i = some r → firstE n f = some r
 | n + 1, hi, h, hr => by
  rw [firstE]
  by_cases hin : i < n
  · rw [firstE_some hin h hr]
  ·
   have e : i = n := by omega
   subst e
   rw [firstE_none h]; exact hr
theorem firstE_inv {α : Type} {f : Nat → Option α} : ∀ {n : Nat}, firstE n f = none → ∀ j, j < n → f j = none
 | 0, _, j, hj => by omega
 | n + 1, h, j, hj => by
  rw [firstE] at h
  rcases hf : firstE n f with _ | r
  ·
   rw [hf] at h
   by_cases e : j < n
   · exact firstE_inv hf j e
   ·
    have : j = n := by omega
    subst this; exact h
  · rw [hf] at h; cases h
def dupB (l : List ByteArray) (i : Nat) : Bool := Lib.containsS (l.take i) (l.getD i ByteArray.empty)
theorem dupB_iff {l : List ByteArray} {i : Nat} (hi : i < l.length) : dupB l i = true ↔ ∃ k, ∃ h : k < l.length, k < i ∧ l[k] = l[i] := by
 have e : l.getD i ByteArray.empty = l[i] := by simp [hi]
 rw [dupB, Lib.containsS_iff, e, List.mem_take_iff_getElem]
 constructor
 ·
  rintro ⟨k, h1, h2⟩
  exact ⟨k, by omega, by omega, h2⟩
 ·
  rintro ⟨k, h1, h2, h3⟩
  exact ⟨k, by omega, h3⟩
structure ProgCap (p : ProgD) : Prop where
 fields : ∀ h ∈ p.headers.l, h.fields.l.length ≤ h.fields.c
 params : ∀ a ∈ p.actions.l, a.params.l.length ≤ a.params.c
 dep : p.deparser.l.length ≤ p.deparser.c
 dflt : ∀ t ∈ p.tables.l, (Lit.int .i64 t.defA).wf = true
 args : ∀ t ∈ p.tables.l, ∀ v ∈ t.args.l, (Lit.int .u32 v).wf = true
 cases : ∀ s ∈ p.states.l, ∀ c ∈ s.cases.l, (Lit.int .u32 c.value).wf = true ∧ (Lit.int .u32 c.mask).wf = true
structure DiagD where
 code : Int
 part : Int
 item : Int
 sub : Int
def DiagD.val (d : DiagD) : Value := .agg #[.int .i64 d.code, .int .i64 d.part, .int .i64 d.item, .int .i64 d.sub]
def noDiag : DiagD := ⟨0, 0, 0, 0⟩
def outE : Option DiagD → Ending
 | none => .returned (.tuple #[])
 | some d => .panicked [{ v := .iface 108 d.val, recovered := false }]
def limM (p : ProgD) : Option DiagD :=
 if ident p.name = false then some ⟨6, 0, 0, 0⟩
 else if 8 < p.headers.l.length then some ⟨12, 0, 1, 0⟩
 else if 4 < p.registers.l.length then some ⟨12, 0, 3, 0⟩
 else if 16 < p.actions.l.length then some ⟨12, 0, 4, 0⟩
 else if 12 < p.tables.l.length then some ⟨12, 0, 5, 0⟩
 else none
def fldM (l : List FieldD) (i : Nat) : Option Int :=
 match l[i]? with
 | none => none
 | some f => if ident f.name = false then some 6 else if okW f.width = false then some 10 else if dupB (l.map FieldD.name) i = true then some 7 else none
def widthSum (l : List FieldD) : Int := (l.map FieldD.width).sum
def hdrM (h : HeaderD) : Int :=
 if ident h.name = false then 6 else if h.fields.l.length = 0 then 8 else if 12 < h.fields.l.length then 12
 else match firstE h.fields.l.length (fldM h.fields.l) with
  | some e => e
  | none => if Int.tmod (widthSum h.fields.l) 8 ≠ 0 then 10 else 0
def metaName : ByteArray := ⟨#[109, 101, 116, 97]⟩
def hdrAtM (l : List HeaderD) (i : Nat) : Option DiagD :=
 match l[i]? with
 | none => none
 | some h => if hdrM h ≠ 0 then some ⟨hdrM h, 1, i, 0⟩ else if h.name = metaName then some ⟨6, 1, i, 0⟩ else if dupB (l.map HeaderD.name) i = true then some ⟨7, 1, i, 0⟩ else none
def hdrsM (p : ProgD) : Option DiagD := firstE p.headers.l.length (hdrAtM p.headers.l)
def metaWant : List FieldD := [⟨⟨#[105, 110]⟩, 8⟩, ⟨⟨#[111, 117, 116]⟩, 8⟩, ⟨⟨#[100, 114, 111, 112]⟩, 1⟩]
def isWant (l : List FieldD) (i : Nat) : Bool :=
 match l[i]?, metaWant[i]? with
 | some f, some g => decide (f.name = g.name) && decide (f.width = g.width)
 | _, _ => false
def metaM (p : ProgD) : Option DiagD :=
 if 12 < p.metadata.l.length then some ⟨12, 2, 0, 0⟩
 else match firstE p.metadata.l.length (fun i => (fldM p.metadata.l i).map fun e => (⟨e, 2, i, 0⟩ : DiagD)) with
  | some d => some d
  | none => firstE 3 (fun i => if isWant p.metadata.l i = false then some ⟨5, 2, i, 0⟩ else none)
def regM (r : RegD) : Int := if ident r.name = false then 6 else if okW r.width = false then 10 else if r.size < 1 ∨ 64 < r.size then 9 else 0
def regAtM (l : List RegD) (i : Nat) : Option DiagD :=
 match l[i]? with
 | none => none
 | some r => if regM r ≠ 0 then some ⟨regM r, 3, i, 0⟩ else if dupB (l.map RegD.name) i = true then some ⟨7, 3, i, 0⟩ else none
def regsM (p : ProgD) : Option DiagD := firstE p.registers.l.length (regAtM p.registers.l)
def fieldsOf (p : ProgD) (h : Int) : Option (L FieldD) := if h = -1 then some p.metadata else if h < 0 then none else (p.headers.l[h.toNat]?).map HeaderD.fields
def declF (p : ProgD) (h f : Int) : Option FieldD :=
 match fieldsOf p h with
 | none => none
 | some x => if f < 0 then none else x.l[f.toNat]?
def declM (p : ProgD) (h f : Int) : Option Int := (declF p h f).map FieldD.width
def arityM (op : Int) : Int :=
 if 1 ≤ op ∧ op ≤ 4 then 0 else if 5 ≤ op ∧ op ≤ 8 then 1 else if 9 ≤ op ∧ op ≤ 16 then 2 else if op = 17 then 3 else -1
def wideM (w : Int) : Int × Int := if okW w = true then (w, 0) else (0, 10)
def primM (p : ProgD) (ps : List FieldD) (x : NodeD) : Int × Int :=
 if x.op = 1 then (if okW x.w = true then (if x.n < 0 ∨ (maskM x.w : Int) < x.n then (0, 9) else (x.w, 0)) else (0, 10))
 else if x.op = 2 then (match declM p x.n x.w with | none => (0, 8) | some w => wideM w)
 else if x.op = 3 then (if x.n < 0 then (0, 8) else match ps[x.n.toNat]? with | none => (0, 8) | some f => wideM f.width)
 else (if x.n < 0 ∨ (p.headers.l.length : Int) ≤ x.n then (0, 8) else (1, 0))
def combM (x : NodeD) (a b c : Int) : Int × Int :=
 if x.op = 6 ∨ x.op = 7 then (if x.n < 0 ∨ 31 < x.n then (0, 9) else (a, 0))
 else if x.op = 8 then (if x.n < 0 then (0, 9) else if okW x.w = false ∨ a - x.w < x.n then (0, 10) else (x.w, 0))
 else if x.op = 14 then wideM (a + b)
 else if x.op = 17 then (if a ≠ 1 ∨ b ≠ c then (0, 10) else (b, 0))
 else if arityM x.op = 2 ∧ a ≠ b then (0, 10)
 else if x.op = 15 ∨ x.op = 16 then (1, 0)
 else (a, 0)
def chkM (p : ProgD) (ps : List FieldD) (l : List NodeD) : Nat → Nat → Int × Nat × Int
 | 0, _ => (0, 0, 3)
 | m + 1, i => match l[i]? with
  | none => (0, 0, 3)
  | some x =>
   if arityM x.op < 0 then (0, 0, 11)
   else if arityM x.op = 0 then ((primM p ps x).1, i + 1, (primM p ps x).2)
   else
    let r1 := chkM p ps l m (i + 1)
    if r1.2.2 ≠ 0 then (0, 0, r1.2.2)
    else if arityM x.op = 1 then ((combM x r1.1 0 0).1, r1.2.1, (combM x r1.1 0 0).2)
    else
     let r2 := chkM p ps l m r1.2.1
     if r2.2.2 ≠ 0 then (0, 0, r2.2.2)
     else if arityM x.op = 2 then ((combM x r1.1 r2.1 0).1, r2.2.1, (combM x r1.1 r2.1 0).2)
     else
      let r3 := chkM p ps l m r2.2.1
      if r3.2.2 ≠ 0 then (0, 0, r3.2.2)
      else ((combM x r1.1 r2.1 r3.1).1, r3.2.1, (combM x r1.1 r2.1 r3.1).2)
def exprM (p : ProgD) (ps : List FieldD) (l : List NodeD) : Int × Int :=
 if 24 < l.length then (0, 12)
 else if (chkM p ps l (l.length + 1) 0).2.2 ≠ 0 then (0, (chkM p ps l (l.length + 1) 0).2.2)
 else if (chkM p ps l (l.length + 1) 0).2.1 < l.length then (0, 4)
 else ((chkM p ps l (l.length + 1) 0).1, 0)
def sizedM (p : ProgD) (ps : List FieldD) (l : List NodeD) (w : Int) : Int := if (exprM p ps l).2 = 0 ∧ (exprM p ps l).1 ≠ w then 10 else (exprM p ps l).2
def regAt (p : ProgD) (i : Int) : Option RegD := if i < 0 then none else p.registers.l[i.toNat]?
def stmtM (p : ProgD) (ps : List FieldD) (s : StmtD) : Int :=
 if s.kind = 1 then (match declM p s.dh s.df with | none => 8 | some w => sizedM p ps s.value.l w)
 else if s.kind = 2 ∨ s.kind = 3 then (if s.hdr < 0 ∨ (p.headers.l.length : Int) ≤ s.hdr then 8 else 0)
 else if s.kind = 4 then (match regAt p s.reg, declM p s.dh s.df with
  | some r, some w => if (exprM p ps s.index.l).2 ≠ 0 then (exprM p ps s.index.l).2 else if w ≠ r.width then 10 else 0
  | _, _ => 8)
 else if s.kind = 5 then (match regAt p s.reg with
  | some r => if (exprM p ps s.index.l).2 ≠ 0 then (exprM p ps s.index.l).2 else sizedM p ps s.value.l r.width
  | none => 8)
 else 11
def declarM (a : ActD) : Int :=
 if ident a.name = false then 6 else if 4 < a.params.l.length ∨ 12 < a.body.l.length then 12
 else match firstE a.params.l.length (fldM a.params.l) with
  | some e => e
  | none => 0
def actM (p : ProgD) (a : ActD) : Int × Int :=
 if declarM a ≠ 0 then (-1, declarM a)
 else match firstE a.body.l.length (fun k => match a.body.l[k]? with | none => none | some s => if stmtM p a.params.l s ≠ 0 then some ((k : Int), stmtM p a.params.l s) else none) with
  | some r => r
  | none => (0, 0)
def actAtM (p : ProgD) (i : Nat) : Option DiagD :=
 match p.actions.l[i]? with
 | none => none
 | some a => if (actM p a).2 ≠ 0 then some ⟨(actM p a).2, 4, i, (actM p a).1⟩ else if dupB (p.actions.l.map ActD.name) i = true then some ⟨7, 4, i, 0⟩ else none
def actsM (p : ProgD) : Option DiagD := firstE p.actions.l.length (actAtM p)
def callM (p : ProgD) (a : Int) (args : List Int) : Int :=
 if a < 0 then 8 else match p.actions.l[a.toNat]? with
 | none => 8
 | some x => if args.length ≠ x.params.l.length then 2
  else match firstE args.length (fun i => match args[i]?, x.params.l[i]? with | some v, some f => if fitsM v f.width = false then some (9 : Int) else none | _, _ => none) with
   | some e => e
   | none => 0
def keyAtM (p : ProgD) (l : List KeyD) (i : Nat) : Option (Int × Int) :=
 match l[i]? with
 | none => none
 | some k => if widthAt p k.h k.f = 0 then some ((i : Int), 8) else if ¬ (k.kind = 1 ∨ k.kind = 2 ∨ k.kind = 3) then some ((i : Int), 11) else none
def lpmM (l : List KeyD) : Int := (l.map fun k => if k.kind = 2 then (1 : Int) else 0).sum
def bitsM (p : ProgD) (l : List KeyD) : Int := (l.map fun k => widthAt p k.h k.f).sum
def keysM (p : ProgD) (l : List KeyD) : Int × Int :=
 match firstE l.length (keyAtM p l) with
 | some r => r
 | none => if 1 < lpmM l then (-2, 7) else if 64 < bitsM p l then (-2, 10) else (0, 0)
def tactAtM (p : ProgD) (l : List Int) (i : Nat) : Option Int :=
 match l[i]? with
 | none => none
 | some a => if a < 0 ∨ (p.actions.l.length : Int) ≤ a then some 8 else if a ∈ l.take i then some 7 else none
def tactsM (p : ProgD) (t : TabD) : Int :=
 match firstE t.acts.l.length (tactAtM p t.acts.l) with
 | some e => e
 | none => if t.defA ∈ t.acts.l then callM p t.defA t.args.l else 8
def tabM (p : ProgD) (t : TabD) : Int × Int :=
 if ident t.name = false then (-1, 6) else if 6 < t.keys.l.length ∨ 16 < t.acts.l.length then (-1, 12) else if t.size < 1 ∨ 256 < t.size then (-1, 9)
 else if (keysM p t.keys.l).2 ≠ 0 then keysM p t.keys.l else if tactsM p t ≠ 0 then (-3, tactsM p t) else (0, 0)
def tabAtM (p : ProgD) (i : Nat) : Option DiagD :=
 match p.tables.l[i]? with
 | none => none
 | some t => if (tabM p t).2 ≠ 0 then some ⟨(tabM p t).2, 5, i, (tabM p t).1⟩ else if dupB (p.tables.l.map TabD.name) i = true then some ⟨7, 5, i, 0⟩ else none
def tabsM (p : ProgD) : Option DiagD := firstE p.tables.l.length (tabAtM p)
def leadsM (p : ProgD) (s : Nat) (n : Int) : Bool := decide (n = -1) || decide (n = -2) || (decide ((s : Int) < n) && decide (n < (p.states.l.length : Int)))
def within (v m : Int) : Bool := decide (v.toNat &&& m.toNat = v.toNat)
def caseM (p : ProgD) (i : Nat) (w : Int) (c : CaseD) : Int :=
 if fitsM c.value w = false ∨ fitsM c.mask w = false then 9 else if within c.value c.mask = false then 5 else if leadsM p i c.next = false then 14 else 0
def caseAtM (p : ProgD) (i : Nat) (w : Int) (l : List CaseD) (k : Nat) : Option (Int × Int) :=
 match l[k]? with
 | none => none
 | some c => if caseM p i w c ≠ 0 then some ((k : Int), caseM p i w c) else none
def stateM (p : ProgD) (i : Nat) (s : StateD) : Int × Int :=
 if 4 < s.extract.l.length ∨ 8 < s.cases.l.length then (-1, 12)
 else if s.extract.l.any (fun h => decide (h < 0) || decide ((p.headers.l.length : Int) ≤ h)) = true then (-1, 8)
 else if s.sel = true ∧ widthAt p s.oh s.of = 0 then (-1, 8)
 else if s.sel = false ∧ 0 < s.cases.l.length then (-1, 11)
 else match firstE s.cases.l.length (caseAtM p i (widthAt p s.oh s.of) s.cases.l) with
  | some r => r
  | none => if leadsM p i s.dflt = false then (-1, 14) else (0, 0)
def stateAtM (p : ProgD) (i : Nat) : Option (Int × Int × Int) :=
 match p.states.l[i]? with
 | none => none
 | some s => if ident s.name = false then some ((i : Int), -1, 6) else if dupB (p.states.l.map StateD.name) i = true then some ((i : Int), -1, 7)
  else if (stateM p i s).2 ≠ 0 then some ((i : Int), (stateM p i s).1, (stateM p i s).2) else none
def parserM (p : ProgD) : Int × Int × Int :=
 if p.states.l.length = 0 then (-1, -1, 8) else if 12 < p.states.l.length then (-1, -1, 12)
 else match firstE p.states.l.length (stateAtM p) with
  | some r => r
  | none => (0, 0, 0)
mutual
def preM : CtlD → List CtlD
 | .mk k t c th el tA eA tc ec => .mk k t c th el tA eA tc ec :: (presM th ++ presM el)
def presM : List CtlD → List CtlD
 | [] => []
 | x :: l => preM x ++ presM l
end
mutual
def nest1M : CtlD → Nat
 | .mk _ _ _ th el _ _ _ _ => max (nestM th) (nestM el)
def nestM : List CtlD → Nat
 | [] => 0
 | x :: l => max (nest1M x + 1) (nestM l)
end
def appliesM (x : CtlD) : Bool := decide (x.kind = 1) || decide (x.kind = 3)
def usedM (l : List CtlD) : List Int := (l.filter appliesM).map CtlD.table
def nodeM (p : ProgD) (used : List Int) (x : CtlD) : Int :=
 if x.kind = 1 ∨ x.kind = 3 then
  (if x.table < 0 ∨ (p.tables.l.length : Int) ≤ x.table then 8 else if x.table ∈ used then 7 else if x.kind = 1 ∧ 0 < x.th.l.length + x.el.l.length then 5 else 0)
 else if x.kind = 2 then (if (exprM p [] x.cond.l).2 ≠ 0 then (exprM p [] x.cond.l).2 else if (exprM p [] x.cond.l).1 ≠ 1 then 10 else 0)
 else 11
def nodeAtM (p : ProgD) (l : List CtlD) (i : Nat) : Option (Int × Int) :=
 match l[i]? with
 | none => none
 | some x => if nodeM p (usedM (l.take i)) x ≠ 0 then some ((i : Int), nodeM p (usedM (l.take i)) x) else none
def ctlM (p : ProgD) : Int × Int :=
 if 24 < (presM p.control.l).length then (-1, 12) else if 6 < nestM p.control.l then (-1, 14)
 else match firstE (presM p.control.l).length (nodeAtM p (presM p.control.l)) with
  | some r => r
  | none => (0, 0)
def depAtM (p : ProgD) (l : List Int) (i : Nat) : Option (Int × Int) :=
 match l[i]? with
 | none => none
 | some h => if h < 0 ∨ (p.headers.l.length : Int) ≤ h then some ((i : Int), 8) else if h ∈ l.take i then some ((i : Int), 7) else none
def depM (p : ProgD) : Int × Int :=
 if 8 < p.deparser.l.length then (-1, 12) else match firstE p.deparser.l.length (depAtM p p.deparser.l) with
  | some r => r
  | none => (0, 0)
def flowM (p : ProgD) : Option DiagD :=
 if (parserM p).2.2 ≠ 0 then some ⟨(parserM p).2.2, 6, (parserM p).1, (parserM p).2.1⟩
 else if (ctlM p).2 ≠ 0 then some ⟨(ctlM p).2, 7, (ctlM p).1, 0⟩
 else if (depM p).2 ≠ 0 then some ⟨(depM p).2, 8, (depM p).1, 0⟩
 else none
def orE {α : Type} : Option α → Option α → Option α
 | some a, _ => some a
 | none, b => b
def checkM (p : ProgD) : Option DiagD := orE (limM p) (orE (hdrsM p) (orE (metaM p) (orE (regsM p) (orE (actsM p) (orE (tabsM p) (flowM p))))))
theorem Tryz.infoString : (Tryz.prog.info? 9).map (fun i => (i.zero, i.size, i.bytes)) = some (some (.string ⟨#[]⟩), 1, 16) := by kernel_rfl
def strs (l : List ByteArray) : List Value := l.map Value.string
def OwnStrs (w' : World) (B : Nat) (A : Option Addr) (c : Nat) (l : List ByteArray) : Prop := w'.ownsRow B 9 1 (.slice A l.length c) l.length (strs l)
theorem one_str (w : World) (s : ByteArray) (t : TypeId) : ∀ j v, [Value.string s][j]? = some v → (w.alloc (.cells #[.string s] t)).cell? ((⟨w.heap.size, 0, none⟩ : Addr).add j) = some v := by
 intro j v hj
 match j, hj with
 | 0, hj => simp at hj; subst hj; simp [Addr.add]
theorem names_header (x : L HeaderD) (w : World) (h : LOk w 2 HeaderD.cells x) (hm : x.l.length ≤ 100) :
  Calls Tryz.prog 83 #[x.v, .func (.func 84) #[] #[]] w fun e w' =>
   ∃ A c, e = .returned (.slice A x.l.length c) ∧ OwnStrs w' w.heap.size A c (x.l.map HeaderD.name) ∧ Below w.heap.size w w' := by
 obtain ⟨l, A0, c0⟩ := x
 have HX := hi_ h
 clear h
 simp only [L.v] at *
 obtain ⟨i0, hi, hz0, hz1, hz2⟩ := info_parts Tryz.infoString
 go_enter Tryz.func83, Tryz.ntmps83
 go_wp2
 go_loopw [5, 7, 10] (fun o xv iv wr => ∃ (k : Nat) (A : Option Addr) (c : Nat), k ≤ l.length ∧ iv = .int .i64 k ∧ o = .slice A k c ∧ wr.ownsRow w.heap.size 9 1 (.slice A k c) k (strs ((l.take k).map HeaderD.name)) ∧ Below w.heap.size w wr)
  (fun _ _ i _ => l.length - (intOf i).toNat)
 case atStart => exact ⟨0, none, 0, Nat.zero_le _, rfl, rfl, World.ownsRow_nil _ _ _ _, Below.refl _ _⟩
 case round =>
  obtain ⟨k, A, c, hk, rfl, rfl, hown, hbel⟩ := hrel
  by_cases hlt : k < l.length
  ·
   obtain ⟨g, of, rfl, d0, d1⟩ := HeaderD.at (HX.out.below hbel (Nat.le_refl _)) hlt
   simp only at d0 d1
   have HT : Hid (l.take (k + 1) = l.take k ++ [l[k]]) := hi_ (List.take_succ_eq_append_getElem hlt)
   generalize l[k] = y at *
   have HO := hi_ hown
   have HB := hi_ hbel
   clear hown hbel
   go_wp2_with fail
   refine (headerName_any y _).mono ?_
   rintro e w1 ⟨rfl, hb1⟩
   have hb2 : Below wr.heap.size wr w1 := (below_alloc (Below.refl _ _) _).trans (hb1.mono (below_alloc (Below.refl _ _) _).size)
   have hown1 := own_below HO.out hb2
   have hbel1 := HB.out.trans (hb2.mono HB.out.size)
   clear hb1 hb2
   go_wp2_with (first
    | (at_builtin; refine wpList_append_own _ rfl _ _ 86 rfl w.heap.size 9 i0 _ 1 16 Tryz.underlying86 hi hz0 hz1 hz2 rfl (by decide) _ _ _ rfl (hown1.alloc _) ⟨w1.heap.size, 0, none⟩ 1 1 [.string y.name] rfl rfl ?c1 ?c2 ?c3 ?c4 ?c5 ?_))
   case c1 => exact one_str _ _ _
   case c2 => intro u hu; simp at hu; subst hu; rfl
   case c3 => unfold maxLen; omega
   case c4 => omega
   case c5 => have := hbel1.size; simp; omega
   intro v' w2 hown2 hgrow _
   have hbel2 : Below w.heap.size w w2 := (hbel1.alloc hbel1.size _).grown hgrow (hbel1.alloc hbel1.size _).size fun j hj => (hown1.lt j hj).1
   obtain ⟨A', c', rfl⟩ : ∃ A' c', v' = .slice A' (k + 1) c' := by
    rcases hown2.2 with ⟨hv, h0⟩ | ⟨g', cap, cur, hv, _, _, _⟩
    · omega
    · exact ⟨_, _, hv⟩
   go_wp2
   go_roundw
   case rel =>
    refine ⟨k + 1, A', c', by omega, by go_num, rfl, ?_, hbel2⟩
    rw [HT.out, List.map_append]
    simpa [strs] using hown2
   case measure => simp [intOf]; omega
  ·
   have hk' : k = l.length := by omega
   subst hk'
   rw [List.take_length] at hown
   have HO := hi_ hown
   clear hown
   go_wp2
   go_ret
   exact ⟨A, c, rfl, by simpa [OwnStrs] using HO.out, hbel⟩
theorem names_field (x : L FieldD) (w : World) (h : LOk w 2 FieldD.cells x) (hm : x.l.length ≤ 100) :
  Calls Tryz.prog 87 #[x.v, .func (.func 88) #[] #[]] w fun e w' =>
   ∃ A c, e = .returned (.slice A x.l.length c) ∧ OwnStrs w' w.heap.size A c (x.l.map FieldD.name) ∧ Below w.heap.size w w' := by
 obtain ⟨l, A0, c0⟩ := x
 have HX := hi_ h
 clear h
 simp only [L.v] at *
 obtain ⟨i0, hi, hz0, hz1, hz2⟩ := info_parts Tryz.infoString
 go_enter Tryz.func87, Tryz.ntmps87
 go_wp2
 go_loopw [5, 7, 10] (fun o xv iv wr => ∃ (k : Nat) (A : Option Addr) (c : Nat), k ≤ l.length ∧ iv = .int .i64 k ∧ o = .slice A k c ∧ wr.ownsRow w.heap.size 9 1 (.slice A k c) k (strs ((l.take k).map FieldD.name)) ∧ Below w.heap.size w wr)
  (fun _ _ i _ => l.length - (intOf i).toNat)
 case atStart => exact ⟨0, none, 0, Nat.zero_le _, rfl, rfl, World.ownsRow_nil _ _ _ _, Below.refl _ _⟩
 case round =>
  obtain ⟨k, A, c, hk, rfl, rfl, hown, hbel⟩ := hrel
  by_cases hlt : k < l.length
  ·
   obtain ⟨g, of, rfl, d0, d1⟩ := FieldD.at (HX.out.below hbel (Nat.le_refl _)) hlt
   simp only at d0 d1
   have HT : Hid (l.take (k + 1) = l.take k ++ [l[k]]) := hi_ (List.take_succ_eq_append_getElem hlt)
   generalize l[k] = y at *
   have HO := hi_ hown
   have HB := hi_ hbel
   clear hown hbel
   go_wp2_with fail
   refine (fieldName_any y _).mono ?_
   rintro e w1 ⟨rfl, hb1⟩
   have hb2 : Below wr.heap.size wr w1 := (below_alloc (Below.refl _ _) _).trans (hb1.mono (below_alloc (Below.refl _ _) _).size)
   have hown1 := own_below HO.out hb2
   have hbel1 := HB.out.trans (hb2.mono HB.out.size)
   clear hb1 hb2
   go_wp2_with (first
    | (at_builtin; refine wpList_append_own _ rfl _ _ 86 rfl w.heap.size 9 i0 _ 1 16 Tryz.underlying86 hi hz0 hz1 hz2 rfl (by decide) _ _ _ rfl (hown1.alloc _) ⟨w1.heap.size, 0, none⟩ 1 1 [.string y.name] rfl rfl ?c1 ?c2 ?c3 ?c4 ?c5 ?_))
   case c1 => exact one_str _ _ _
   case c2 => intro u hu; simp at hu; subst hu; rfl
   case c3 => unfold maxLen; omega
   case c4 => omega
   case c5 => have := hbel1.size; simp; omega
   intro v' w2 hown2 hgrow _
   have hbel2 : Below w.heap.size w w2 := (hbel1.alloc hbel1.size _).grown hgrow (hbel1.alloc hbel1.size _).size fun j hj => (hown1.lt j hj).1
   obtain ⟨A', c', rfl⟩ : ∃ A' c', v' = .slice A' (k + 1) c' := by
    rcases hown2.2 with ⟨hv, h0⟩ | ⟨g', cap, cur, hv, _, _, _⟩
    · omega
    · exact ⟨_, _, hv⟩
   go_wp2
   go_roundw
   case rel =>
    refine ⟨k + 1, A', c', by omega, by go_num, rfl, ?_, hbel2⟩
    rw [HT.out, List.map_append]
    simpa [strs] using hown2
   case measure => simp [intOf]; omega
  ·
   have hk' : k = l.length := by omega
   subst hk'
   rw [List.take_length] at hown
   have HO := hi_ hown
   clear hown
   go_wp2
   go_ret
   exact ⟨A, c, rfl, by simpa [OwnStrs] using HO.out, hbel⟩
theorem names_register (x : L RegD) (w : World) (h : LOk w 3 RegD.cells x) (hm : x.l.length ≤ 100) :
  Calls Tryz.prog 90 #[x.v, .func (.func 91) #[] #[]] w fun e w' =>
   ∃ A c, e = .returned (.slice A x.l.length c) ∧ OwnStrs w' w.heap.size A c (x.l.map RegD.name) ∧ Below w.heap.size w w' := by
 obtain ⟨l, A0, c0⟩ := x
 have HX := hi_ h
 clear h
 simp only [L.v] at *
 obtain ⟨i0, hi, hz0, hz1, hz2⟩ := info_parts Tryz.infoString
 go_enter Tryz.func90, Tryz.ntmps90
 go_wp2
 go_loopw [5, 7, 10] (fun o xv iv wr => ∃ (k : Nat) (A : Option Addr) (c : Nat), k ≤ l.length ∧ iv = .int .i64 k ∧ o = .slice A k c ∧ wr.ownsRow w.heap.size 9 1 (.slice A k c) k (strs ((l.take k).map RegD.name)) ∧ Below w.heap.size w wr)
  (fun _ _ i _ => l.length - (intOf i).toNat)
 case atStart => exact ⟨0, none, 0, Nat.zero_le _, rfl, rfl, World.ownsRow_nil _ _ _ _, Below.refl _ _⟩
 case round =>
  obtain ⟨k, A, c, hk, rfl, rfl, hown, hbel⟩ := hrel
  by_cases hlt : k < l.length
  ·
   obtain ⟨g, of, rfl, d0, d1, d2⟩ := RegD.at (HX.out.below hbel (Nat.le_refl _)) hlt
   simp only at d0 d1 d2
   have HT : Hid (l.take (k + 1) = l.take k ++ [l[k]]) := hi_ (List.take_succ_eq_append_getElem hlt)
   generalize l[k] = y at *
   have HO := hi_ hown
   have HB := hi_ hbel
   clear hown hbel
   go_wp2_with fail
   refine (registerName_any y _).mono ?_
   rintro e w1 ⟨rfl, hb1⟩
   have hb2 : Below wr.heap.size wr w1 := (below_alloc (Below.refl _ _) _).trans (hb1.mono (below_alloc (Below.refl _ _) _).size)
   have hown1 := own_below HO.out hb2
   have hbel1 := HB.out.trans (hb2.mono HB.out.size)
   clear hb1 hb2
   go_wp2_with (first
    | (at_builtin; refine wpList_append_own _ rfl _ _ 86 rfl w.heap.size 9 i0 _ 1 16 Tryz.underlying86 hi hz0 hz1 hz2 rfl (by decide) _ _ _ rfl (hown1.alloc _) ⟨w1.heap.size, 0, none⟩ 1 1 [.string y.name] rfl rfl ?c1 ?c2 ?c3 ?c4 ?c5 ?_))
   case c1 => exact one_str _ _ _
   case c2 => intro u hu; simp at hu; subst hu; rfl
   case c3 => unfold maxLen; omega
   case c4 => omega
   case c5 => have := hbel1.size; simp; omega
   intro v' w2 hown2 hgrow _
   have hbel2 : Below w.heap.size w w2 := (hbel1.alloc hbel1.size _).grown hgrow (hbel1.alloc hbel1.size _).size fun j hj => (hown1.lt j hj).1
   obtain ⟨A', c', rfl⟩ : ∃ A' c', v' = .slice A' (k + 1) c' := by
    rcases hown2.2 with ⟨hv, h0⟩ | ⟨g', cap, cur, hv, _, _, _⟩
    · omega
    · exact ⟨_, _, hv⟩
   go_wp2
   go_roundw
   case rel =>
    refine ⟨k + 1, A', c', by omega, by go_num, rfl, ?_, hbel2⟩
    rw [HT.out, List.map_append]
    simpa [strs] using hown2
   case measure => simp [intOf]; omega
  ·
   have hk' : k = l.length := by omega
   subst hk'
   rw [List.take_length] at hown
   have HO := hi_ hown
   clear hown
   go_wp2
   go_ret
   exact ⟨A, c, rfl, by simpa [OwnStrs] using HO.out, hbel⟩
theorem names_action (x : L ActD) (w : World) (h : LOk w 3 ActD.cells x) (hm : x.l.length ≤ 100) :
  Calls Tryz.prog 93 #[x.v, .func (.func 94) #[] #[]] w fun e w' =>
   ∃ A c, e = .returned (.slice A x.l.length c) ∧ OwnStrs w' w.heap.size A c (x.l.map ActD.name) ∧ Below w.heap.size w w' := by
 obtain ⟨l, A0, c0⟩ := x
 have HX := hi_ h
 clear h
 simp only [L.v] at *
 obtain ⟨i0, hi, hz0, hz1, hz2⟩ := info_parts Tryz.infoString
 go_enter Tryz.func93, Tryz.ntmps93
 go_wp2
 go_loopw [5, 7, 10] (fun o xv iv wr => ∃ (k : Nat) (A : Option Addr) (c : Nat), k ≤ l.length ∧ iv = .int .i64 k ∧ o = .slice A k c ∧ wr.ownsRow w.heap.size 9 1 (.slice A k c) k (strs ((l.take k).map ActD.name)) ∧ Below w.heap.size w wr)
  (fun _ _ i _ => l.length - (intOf i).toNat)
 case atStart => exact ⟨0, none, 0, Nat.zero_le _, rfl, rfl, World.ownsRow_nil _ _ _ _, Below.refl _ _⟩
 case round =>
  obtain ⟨k, A, c, hk, rfl, rfl, hown, hbel⟩ := hrel
  by_cases hlt : k < l.length
  ·
   obtain ⟨g, of, rfl, d0, d1, d2⟩ := ActD.at (HX.out.below hbel (Nat.le_refl _)) hlt
   simp only at d0 d1 d2
   have HT : Hid (l.take (k + 1) = l.take k ++ [l[k]]) := hi_ (List.take_succ_eq_append_getElem hlt)
   generalize l[k] = y at *
   have HO := hi_ hown
   have HB := hi_ hbel
   clear hown hbel
   go_wp2_with fail
   refine (actionName_any y _).mono ?_
   rintro e w1 ⟨rfl, hb1⟩
   have hb2 : Below wr.heap.size wr w1 := (below_alloc (Below.refl _ _) _).trans (hb1.mono (below_alloc (Below.refl _ _) _).size)
   have hown1 := own_below HO.out hb2
   have hbel1 := HB.out.trans (hb2.mono HB.out.size)
   clear hb1 hb2
   go_wp2_with (first
    | (at_builtin; refine wpList_append_own _ rfl _ _ 86 rfl w.heap.size 9 i0 _ 1 16 Tryz.underlying86 hi hz0 hz1 hz2 rfl (by decide) _ _ _ rfl (hown1.alloc _) ⟨w1.heap.size, 0, none⟩ 1 1 [.string y.name] rfl rfl ?c1 ?c2 ?c3 ?c4 ?c5 ?_))
   case c1 => exact one_str _ _ _
   case c2 => intro u hu; simp at hu; subst hu; rfl
   case c3 => unfold maxLen; omega
   case c4 => omega
   case c5 => have := hbel1.size; simp; omega
   intro v' w2 hown2 hgrow _
   have hbel2 : Below w.heap.size w w2 := (hbel1.alloc hbel1.size _).grown hgrow (hbel1.alloc hbel1.size _).size fun j hj => (hown1.lt j hj).1
   obtain ⟨A', c', rfl⟩ : ∃ A' c', v' = .slice A' (k + 1) c' := by
    rcases hown2.2 with ⟨hv, h0⟩ | ⟨g', cap, cur, hv, _, _, _⟩
    · omega
    · exact ⟨_, _, hv⟩
   go_wp2
   go_roundw
   case rel =>
    refine ⟨k + 1, A', c', by omega, by go_num, rfl, ?_, hbel2⟩
    rw [HT.out, List.map_append]
    simpa [strs] using hown2
   case measure => simp [intOf]; omega
  ·
   have hk' : k = l.length := by omega
   subst hk'
   rw [List.take_length] at hown
   have HO := hi_ hown
   clear hown
   go_wp2
   go_ret
   exact ⟨A, c, rfl, by simpa [OwnStrs] using HO.out, hbel⟩
theorem names_table (x : L TabD) (w : World) (h : LOk w 6 TabD.cells x) (hm : x.l.length ≤ 100) :
  Calls Tryz.prog 96 #[x.v, .func (.func 97) #[] #[]] w fun e w' =>
   ∃ A c, e = .returned (.slice A x.l.length c) ∧ OwnStrs w' w.heap.size A c (x.l.map TabD.name) ∧ Below w.heap.size w w' := by
 obtain ⟨l, A0, c0⟩ := x
 have HX := hi_ h
 clear h
 simp only [L.v] at *
 obtain ⟨i0, hi, hz0, hz1, hz2⟩ := info_parts Tryz.infoString
 go_enter Tryz.func96, Tryz.ntmps96
 go_wp2
 go_loopw [5, 7, 10] (fun o xv iv wr => ∃ (k : Nat) (A : Option Addr) (c : Nat), k ≤ l.length ∧ iv = .int .i64 k ∧ o = .slice A k c ∧ wr.ownsRow w.heap.size 9 1 (.slice A k c) k (strs ((l.take k).map TabD.name)) ∧ Below w.heap.size w wr)
  (fun _ _ i _ => l.length - (intOf i).toNat)
 case atStart => exact ⟨0, none, 0, Nat.zero_le _, rfl, rfl, World.ownsRow_nil _ _ _ _, Below.refl _ _⟩
 case round =>
  obtain ⟨k, A, c, hk, rfl, rfl, hown, hbel⟩ := hrel
  by_cases hlt : k < l.length
  ·
   obtain ⟨g, of, rfl, d0, d1, d2, d3, d4, d5⟩ := TabD.at (HX.out.below hbel (Nat.le_refl _)) hlt
   simp only at d0 d1 d2 d3 d4 d5
   have HT : Hid (l.take (k + 1) = l.take k ++ [l[k]]) := hi_ (List.take_succ_eq_append_getElem hlt)
   generalize l[k] = y at *
   have HO := hi_ hown
   have HB := hi_ hbel
   clear hown hbel
   go_wp2_with fail
   refine (tableName_any y _).mono ?_
   rintro e w1 ⟨rfl, hb1⟩
   have hb2 : Below wr.heap.size wr w1 := (below_alloc (Below.refl _ _) _).trans (hb1.mono (below_alloc (Below.refl _ _) _).size)
   have hown1 := own_below HO.out hb2
   have hbel1 := HB.out.trans (hb2.mono HB.out.size)
   clear hb1 hb2
   go_wp2_with (first
    | (at_builtin; refine wpList_append_own _ rfl _ _ 86 rfl w.heap.size 9 i0 _ 1 16 Tryz.underlying86 hi hz0 hz1 hz2 rfl (by decide) _ _ _ rfl (hown1.alloc _) ⟨w1.heap.size, 0, none⟩ 1 1 [.string y.name] rfl rfl ?c1 ?c2 ?c3 ?c4 ?c5 ?_))
   case c1 => exact one_str _ _ _
   case c2 => intro u hu; simp at hu; subst hu; rfl
   case c3 => unfold maxLen; omega
   case c4 => omega
   case c5 => have := hbel1.size; simp; omega
   intro v' w2 hown2 hgrow _
   have hbel2 : Below w.heap.size w w2 := (hbel1.alloc hbel1.size _).grown hgrow (hbel1.alloc hbel1.size _).size fun j hj => (hown1.lt j hj).1
   obtain ⟨A', c', rfl⟩ : ∃ A' c', v' = .slice A' (k + 1) c' := by
    rcases hown2.2 with ⟨hv, h0⟩ | ⟨g', cap, cur, hv, _, _, _⟩
    · omega
    · exact ⟨_, _, hv⟩
   go_wp2
   go_roundw
   case rel =>
    refine ⟨k + 1, A', c', by omega, by go_num, rfl, ?_, hbel2⟩
    rw [HT.out, List.map_append]
    simpa [strs] using hown2
   case measure => simp [intOf]; omega
  ·
   have hk' : k = l.length := by omega
   subst hk'
   rw [List.take_length] at hown
   have HO := hi_ hown
   clear hown
   go_wp2
   go_ret
   exact ⟨A, c, rfl, by simpa [OwnStrs] using HO.out, hbel⟩
@[reducible] def progCells (p : ProgD) : Array Value := #[.string p.name, .slice p.headers.A p.headers.l.length p.headers.c, .slice p.metadata.A p.metadata.l.length p.metadata.c,
 .slice p.registers.A p.registers.l.length p.registers.c, .slice p.actions.A p.actions.l.length p.actions.c, .slice p.tables.A p.tables.l.length p.tables.c,
 .slice p.states.A p.states.l.length p.states.c, .slice p.control.A p.control.l.length p.control.c, .slice p.deparser.A p.deparser.l.length p.deparser.c]
theorem prog_box (w : World) (p : ProgD) (t : TypeId) : ∃ W, W = w.alloc (.cells #[.string p.name, .slice p.headers.A p.headers.l.length p.headers.c, .slice p.metadata.A p.metadata.l.length p.metadata.c,
      .slice p.registers.A p.registers.l.length p.registers.c, .slice p.actions.A p.actions.l.length p.actions.c, .slice p.tables.A p.tables.l.length p.tables.c,
      .slice p.states.A p.states.l.length p.states.c, .slice p.control.A p.control.l.length p.control.c, .slice p.deparser.A p.deparser.l.length p.deparser.c] t) ∧
    Below w.heap.size w W ∧ Below W.heap.size W W ∧ ∀ w', Below W.heap.size W w' →
      (w'.cell? ⟨w.heap.size, 0, none⟩ = some (.string p.name) ∧ w'.cell? ⟨w.heap.size, 1, none⟩ = some (.slice p.headers.A p.headers.l.length p.headers.c) ∧
       w'.cell? ⟨w.heap.size, 2, none⟩ = some (.slice p.metadata.A p.metadata.l.length p.metadata.c) ∧ w'.cell? ⟨w.heap.size, 3, none⟩ = some (.slice p.registers.A p.registers.l.length p.registers.c) ∧
       w'.cell? ⟨w.heap.size, 4, none⟩ = some (.slice p.actions.A p.actions.l.length p.actions.c) ∧ w'.cell? ⟨w.heap.size, 5, none⟩ = some (.slice p.tables.A p.tables.l.length p.tables.c) ∧
       w'.cell? ⟨w.heap.size, 6, none⟩ = some (.slice p.states.A p.states.l.length p.states.c) ∧ w'.cell? ⟨w.heap.size, 7, none⟩ = some (.slice p.control.A p.control.l.length p.control.c) ∧
       w'.cell? ⟨w.heap.size, 8, none⟩ = some (.slice p.deparser.A p.deparser.l.length p.deparser.c)) := by
  refine ⟨_, rfl, below1 _ _, Below.refl _ _, fun w' hb => ⟨?_, ?_, ?_, ?_, ?_, ?_, ?_, ?_, ?_⟩⟩ <;> exact below_cell hb (by simp)
theorem repeated_any (l : List ByteArray) (g c i : Nat) (w : World) (hi : i < l.length) (hm : l.length ≤ 1000) (hcap : l.length ≤ c) (hc : ∀ j, j < l.length → w.cell? ⟨g, 0 + j, none⟩ = some (.string (l.getD j ByteArray.empty))) :
  Calls Tryz.prog 86 #[.slice (some ⟨g, 0, none⟩) l.length c, .int .i64 i] w fun e w' => e = .returned (.bool (Lib.containsS (l.take i) (l.getD i ByteArray.empty))) ∧ Below w.heap.size w w' := by
 have h1 : (0 : Int) ≤ i := by omega
 have h2 : (i : Int) < (l.length : Int) := by omega
 have h3 : (i : Int) ≤ (c : Int) := by omega
 have hd : ∀ w', Below w.heap.size w w' → w'.cell? ⟨g, i, none⟩ = some (.string (l.getD i ByteArray.empty)) := fun w' hb => below_cell hb (by have := hc i hi; rwa [Nat.zero_add] at this)
 have H0 := hi_ (Below.refl w.heap.size w)
 have HC := hi_ hc
 clear hc
 generalize hx : l.getD i ByteArray.empty = x at *
 go_enter Tryz.func86, Tryz.ntmps86
 go_wp2
 go_region_held3 (fun w' => Below w.heap.size w w') (first | exact H0.out | exact below_drew H0.out | (exact below_step (by assumption) (by assumption)) | assumption)
  (first | (go_at_call 152; refine (Tryz.slices_Contains_string g 0 i c l x _ (by omega) (by omega) (fun j hj => below_cell (by assumption) (HC.out j hj))).mono ?_; rintro e w1 ⟨rfl, rfl⟩))
 go_wp2
 go_ret
 exact ⟨rfl, by assumption⟩
theorem when_false (b : Bool) (c : Int) (w : World) (h : b = false) :
  Calls Tryz.prog 81 #[.bool b, .int .i64 c] w fun e w' => e = .returned (.int .i64 0) ∧ w = w' := by
 subst h; exact when_any false c w
theorem OwnStrs.form {w : World} {B c : Nat} {A : Option Addr} {l : List ByteArray} (h : OwnStrs w B A c l) (h0 : 0 < l.length) :
  ∃ g, A = some ⟨g, 0, none⟩ ∧ g < w.heap.size ∧ l.length ≤ c ∧ ∀ j, j < l.length → w.cell? ⟨g, 0 + j, none⟩ = some (.string (l.getD j ByteArray.empty)) := by
 have h' : w.ownsRow B 9 1 (.slice A l.length c) l.length (strs l) := h
 rcases h'.2 with ⟨_, h1⟩ | ⟨g, cap, cur, hv, _, hblk, hle, _, _, _⟩
 · omega
 ·
  have hA : A = some ⟨g, 0, none⟩ := by injection hv
  have hc : c = cap := by injection hv
  subst hA
  refine ⟨g, rfl, ?_, by omega, fun j hj => ?_⟩
  ·
   rcases Nat.lt_or_ge g w.heap.size with h2 | h2
   · exact h2
   · rw [Array.getElem?_eq_none h2] at hblk; cases hblk
  ·
   rw [Nat.zero_add, h'.cellAt j (by omega)]
   simp [strs, List.getD, hj]
theorem i95_0 (x0 x1 x2 : ByteArray) (n0 n1 n2 : Int) (w : World) : (Instr.index 156 (.agg #[.string x0, .int .i64 n0, .string x1, .int .i64 n1, .string x2, .int .i64 n2]) (.int .i64 0)).run Tryz.prog w = .ok (.agg #[.string x0, .int .i64 n0]) w := by kernel_rfl
theorem i95_1 (x0 x1 x2 : ByteArray) (n0 n1 n2 : Int) (w : World) : (Instr.index 156 (.agg #[.string x0, .int .i64 n0, .string x1, .int .i64 n1, .string x2, .int .i64 n2]) (.int .i64 1)).run Tryz.prog w = .ok (.agg #[.string x1, .int .i64 n1]) w := by kernel_rfl
theorem i95_2 (x0 x1 x2 : ByteArray) (n0 n1 n2 : Int) (w : World) : (Instr.index 156 (.agg #[.string x0, .int .i64 n0, .string x1, .int .i64 n1, .string x2, .int .i64 n2]) (.int .i64 2)).run Tryz.prog w = .ok (.agg #[.string x2, .int .i64 n2]) w := by kernel_rfl
theorem box1 (w : World) (cs : Array Value) (t : TypeId) : ∃ W, W = w.alloc (.cells cs t) ∧ Below w.heap.size w W ∧ Below W.heap.size W W ∧
  ∀ w', Below W.heap.size W w' → ∀ i, i < cs.size → w'.cell? ⟨w.heap.size, i, none⟩ = cs[i]? := by
 refine ⟨_, rfl, below1 _ _, Below.refl _ _, fun w' hb i hi => ?_⟩
 rw [Array.getElem?_eq_getElem hi]
 exact below_cell hb (by simp [hi])
theorem box2 (w : World) (cs : Array Value) (t : TypeId) (cs2 : Array Value) (t2 : TypeId) : ∃ W, W = (w.alloc (.cells cs t)).alloc (.cells cs2 t2) ∧ Below w.heap.size w W ∧ Below W.heap.size W W ∧
  ∀ w', Below W.heap.size W w' → (∀ i, i < cs.size → w'.cell? ⟨w.heap.size, i, none⟩ = cs[i]?) ∧ ∀ i, i < cs2.size → w'.cell? ⟨w.heap.size + 1, i, none⟩ = cs2[i]? := by
 refine ⟨_, rfl, below2 _ _ _, Below.refl _ _, fun w' hb => ⟨fun i hi => ?_, fun i hi => ?_⟩⟩
 all_goals
  rw [Array.getElem?_eq_getElem hi]
  exact below_cell hb (by simp [hi])
theorem CaseD.at {w : World} {x : L CaseD} (h : LOk w 3 CaseD.cells x) {i : Nat} (hi : i < x.l.length) :
  ∃ g o, x.A = some ⟨g, o, none⟩ ∧ w.cell? ⟨g, o + i * 3, none⟩ = some (.int .u32 x.l[i].value) ∧ w.cell? ⟨g, o + i * 3 + 1, none⟩ = some (.int .u32 x.l[i].mask) ∧ w.cell? ⟨g, o + i * 3 + 2, none⟩ = some (.int .i64 x.l[i].next) := by
 obtain ⟨g, o, e, _, hc⟩ := h.at hi
 exact ⟨g, o, e, hc 0 (by omega), hc 1 (by omega), hc 2 (by omega)⟩
theorem toList_inj {a b : ByteArray} : a.toList = b.toList ↔ a = b := by
 constructor
 ·
  intro h
  rw [toList_data, toList_data] at h
  cases a; cases b
  simp only [Array.toList_inj] at h
  rw [h]
 · rintro rfl; rfl
theorem toList_true {a b : ByteArray} (h : a = b) : (a.toList == b.toList) = true := beq_iff_eq.2 (toList_inj.2 h)
theorem toList_false {a b : ByteArray} (h : ¬ a = b) : (a.toList == b.toList) = false := bf_ fun e => h (toList_inj.1 e)
theorem when_true (b : Bool) (c : Int) (w : World) (h : b = true) :
  Calls Tryz.prog 81 #[.bool b, .int .i64 c] w fun e w' => e = .returned (.int .i64 c) ∧ w = w' := by
 subst h; exact when_any true c w
theorem NodeD.atA {w : World} {x : L NodeD} (h : LOk w 3 NodeD.cells x) {i : Nat} (hi : i < x.l.length) :
  ∃ g o, x.A = some ⟨g, o, none⟩ ∧ ∀ w', Below w.heap.size w w' → w'.cell? ⟨g, o + i * 3, none⟩ = some (.int .i64 x.l[i].op) ∧ w'.cell? ⟨g, o + i * 3 + 1, none⟩ = some (.int .i64 x.l[i].n) ∧ w'.cell? ⟨g, o + i * 3 + 2, none⟩ = some (.int .i64 x.l[i].w) := by
 obtain ⟨g, o, e, d0, d1, d2⟩ := NodeD.at h hi
 exact ⟨g, o, e, fun w' hb => ⟨below_cell hb d0, below_cell hb d1, below_cell hb d2⟩⟩
theorem FieldD.atA {w : World} {x : L FieldD} (h : LOk w 2 FieldD.cells x) {i : Nat} (hi : i < x.l.length) :
  ∃ g o, x.A = some ⟨g, o, none⟩ ∧ ∀ w', Below w.heap.size w w' → w'.cell? ⟨g, o + i * 2, none⟩ = some (.string x.l[i].name) ∧ w'.cell? ⟨g, o + i * 2 + 1, none⟩ = some (.int .i64 x.l[i].width) := by
 obtain ⟨g, o, e, d0, d1⟩ := FieldD.at h hi
 exact ⟨g, o, e, fun w' hb => ⟨below_cell hb d0, below_cell hb d1⟩⟩
theorem HeaderD.atA {w : World} {x : L HeaderD} (h : LOk w 2 HeaderD.cells x) {i : Nat} (hi : i < x.l.length) :
  ∃ g o, x.A = some ⟨g, o, none⟩ ∧ ∀ w', Below w.heap.size w w' → w'.cell? ⟨g, o + i * 2, none⟩ = some (.string x.l[i].name) ∧ w'.cell? ⟨g, o + i * 2 + 1, none⟩ = some (.slice x.l[i].fields.A x.l[i].fields.l.length x.l[i].fields.c) := by
 obtain ⟨g, o, e, d0, d1⟩ := HeaderD.at h hi
 exact ⟨g, o, e, fun w' hb => ⟨below_cell hb d0, below_cell hb d1⟩⟩
theorem RegD.atA {w : World} {x : L RegD} (h : LOk w 3 RegD.cells x) {i : Nat} (hi : i < x.l.length) :
  ∃ g o, x.A = some ⟨g, o, none⟩ ∧ ∀ w', Below w.heap.size w w' → w'.cell? ⟨g, o + i * 3, none⟩ = some (.string x.l[i].name) ∧ w'.cell? ⟨g, o + i * 3 + 1, none⟩ = some (.int .i64 x.l[i].width) ∧ w'.cell? ⟨g, o + i * 3 + 2, none⟩ = some (.int .i64 x.l[i].size) := by
 obtain ⟨g, o, e, d0, d1, d2⟩ := RegD.at h hi
 exact ⟨g, o, e, fun w' hb => ⟨below_cell hb d0, below_cell hb d1, below_cell hb d2⟩⟩
theorem ActD.atA {w : World} {x : L ActD} (h : LOk w 3 ActD.cells x) {i : Nat} (hi : i < x.l.length) :
  ∃ g o, x.A = some ⟨g, o, none⟩ ∧ ∀ w', Below w.heap.size w w' → w'.cell? ⟨g, o + i * 3, none⟩ = some (.string x.l[i].name) ∧ w'.cell? ⟨g, o + i * 3 + 1, none⟩ = some (.slice x.l[i].params.A x.l[i].params.l.length x.l[i].params.c) ∧ w'.cell? ⟨g, o + i * 3 + 2, none⟩ = some (.slice x.l[i].body.A x.l[i].body.l.length x.l[i].body.c) := by
 obtain ⟨g, o, e, d0, d1, d2⟩ := ActD.at h hi
 exact ⟨g, o, e, fun w' hb => ⟨below_cell hb d0, below_cell hb d1, below_cell hb d2⟩⟩
theorem KeyD.atA {w : World} {x : L KeyD} (h : LOk w 3 KeyD.cells x) {i : Nat} (hi : i < x.l.length) :
  ∃ g o, x.A = some ⟨g, o, none⟩ ∧ ∀ w', Below w.heap.size w w' → w'.cell? ⟨g, o + i * 3, none⟩ = some (.int .i64 x.l[i].h) ∧ w'.cell? ⟨g, o + i * 3 + 1, none⟩ = some (.int .i64 x.l[i].f) ∧ w'.cell? ⟨g, o + i * 3 + 2, none⟩ = some (.int .i64 x.l[i].kind) := by
 obtain ⟨g, o, e, d0, d1, d2⟩ := KeyD.at h hi
 exact ⟨g, o, e, fun w' hb => ⟨below_cell hb d0, below_cell hb d1, below_cell hb d2⟩⟩
theorem TabD.atA {w : World} {x : L TabD} (h : LOk w 6 TabD.cells x) {i : Nat} (hi : i < x.l.length) :
  ∃ g o, x.A = some ⟨g, o, none⟩ ∧ ∀ w', Below w.heap.size w w' → w'.cell? ⟨g, o + i * 6, none⟩ = some (.string x.l[i].name) ∧ w'.cell? ⟨g, o + i * 6 + 1, none⟩ = some (.slice x.l[i].keys.A x.l[i].keys.l.length x.l[i].keys.c) ∧ w'.cell? ⟨g, o + i * 6 + 2, none⟩ = some (.slice x.l[i].acts.A x.l[i].acts.l.length x.l[i].acts.c) ∧ w'.cell? ⟨g, o + i * 6 + 3, none⟩ = some (.int .i64 x.l[i].defA) ∧ w'.cell? ⟨g, o + i * 6 + 4, none⟩ = some (.slice x.l[i].args.A x.l[i].args.l.length x.l[i].args.c) ∧ w'.cell? ⟨g, o + i * 6 + 5, none⟩ = some (.int .i64 x.l[i].size) := by
 obtain ⟨g, o, e, d0, d1, d2, d3, d4, d5⟩ := TabD.at h hi
 exact ⟨g, o, e, fun w' hb => ⟨below_cell hb d0, below_cell hb d1, below_cell hb d2, below_cell hb d3, below_cell hb d4, below_cell hb d5⟩⟩
theorem StateD.atA {w : World} {x : L StateD} (h : LOk w 7 StateD.cells x) {i : Nat} (hi : i < x.l.length) :
  ∃ g o, x.A = some ⟨g, o, none⟩ ∧ ∀ w', Below w.heap.size w w' → w'.cell? ⟨g, o + i * 7, none⟩ = some (.string x.l[i].name) ∧ w'.cell? ⟨g, o + i * 7 + 1, none⟩ = some (.slice x.l[i].extract.A x.l[i].extract.l.length x.l[i].extract.c) ∧ w'.cell? ⟨g, o + i * 7 + 2, none⟩ = some (.bool x.l[i].sel) ∧ w'.cell? ⟨g, o + i * 7 + 3, none⟩ = some (.int .i64 x.l[i].oh) ∧ w'.cell? ⟨g, o + i * 7 + 4, none⟩ = some (.int .i64 x.l[i].of) ∧ w'.cell? ⟨g, o + i * 7 + 5, none⟩ = some (.slice x.l[i].cases.A x.l[i].cases.l.length x.l[i].cases.c) ∧ w'.cell? ⟨g, o + i * 7 + 6, none⟩ = some (.int .i64 x.l[i].dflt) := by
 obtain ⟨g, o, e, d0, d1, d2, d3, d4, d5, d6⟩ := StateD.at h hi
 exact ⟨g, o, e, fun w' hb => ⟨below_cell hb d0, below_cell hb d1, below_cell hb d2, below_cell hb d3, below_cell hb d4, below_cell hb d5, below_cell hb d6⟩⟩
theorem StmtD.atA {w : World} {x : L StmtD} (h : LOk w 7 StmtD.cells x) {i : Nat} (hi : i < x.l.length) :
  ∃ g o, x.A = some ⟨g, o, none⟩ ∧ ∀ w', Below w.heap.size w w' → w'.cell? ⟨g, o + i * 7, none⟩ = some (.int .i64 x.l[i].kind) ∧ w'.cell? ⟨g, o + i * 7 + 1, none⟩ = some (.int .i64 x.l[i].dh) ∧ w'.cell? ⟨g, o + i * 7 + 2, none⟩ = some (.int .i64 x.l[i].df) ∧ w'.cell? ⟨g, o + i * 7 + 3, none⟩ = some (.int .i64 x.l[i].reg) ∧ w'.cell? ⟨g, o + i * 7 + 4, none⟩ = some (.int .i64 x.l[i].hdr) ∧ w'.cell? ⟨g, o + i * 7 + 5, none⟩ = some (.slice x.l[i].index.A x.l[i].index.l.length x.l[i].index.c) ∧ w'.cell? ⟨g, o + i * 7 + 6, none⟩ = some (.slice x.l[i].value.A x.l[i].value.l.length x.l[i].value.c) := by
 obtain ⟨g, o, e, d0, d1, d2, d3, d4, d5, d6⟩ := StmtD.at h hi
 exact ⟨g, o, e, fun w' hb => ⟨below_cell hb d0, below_cell hb d1, below_cell hb d2, below_cell hb d3, below_cell hb d4, below_cell hb d5, below_cell hb d6⟩⟩
theorem CtlD.atA {w : World} {x : L CtlD} (h : LOk w 5 CtlD.cells x) {i : Nat} (hi : i < x.l.length) :
  ∃ g o, x.A = some ⟨g, o, none⟩ ∧ ∀ w', Below w.heap.size w w' → w'.cell? ⟨g, o + i * 5, none⟩ = some (.int .i64 x.l[i].kind) ∧ w'.cell? ⟨g, o + i * 5 + 1, none⟩ = some (.int .i64 x.l[i].table) ∧ w'.cell? ⟨g, o + i * 5 + 2, none⟩ = some (.slice x.l[i].cond.A x.l[i].cond.l.length x.l[i].cond.c) ∧ w'.cell? ⟨g, o + i * 5 + 3, none⟩ = some (.slice x.l[i].th.A x.l[i].th.l.length x.l[i].th.c) ∧ w'.cell? ⟨g, o + i * 5 + 4, none⟩ = some (.slice x.l[i].el.A x.l[i].el.l.length x.l[i].el.c) := by
 obtain ⟨g, o, e, d0, d1, d2, d3, d4⟩ := CtlD.at h hi
 exact ⟨g, o, e, fun w' hb => ⟨below_cell hb d0, below_cell hb d1, below_cell hb d2, below_cell hb d3, below_cell hb d4⟩⟩
theorem icell_atA {w : World} {x : L Int} (h : LOk w 1 icell x) {i : Nat} (hi : i < x.l.length) : ∃ g o, x.A = some ⟨g, o, none⟩ ∧ ∀ w', Below w.heap.size w w' → w'.cell? ⟨g, o + i, none⟩ = some (.int .i64 x.l[i]) := by
 obtain ⟨g, o, e, d0⟩ := icell_at h hi
 exact ⟨g, o, e, fun w' hb => below_cell hb d0⟩
theorem ucell_atA {w : World} {x : L Int} (h : LOk w 1 ucell x) {i : Nat} (hi : i < x.l.length) : ∃ g o, x.A = some ⟨g, o, none⟩ ∧ ∀ w', Below w.heap.size w w' → w'.cell? ⟨g, o + i, none⟩ = some (.int .u32 x.l[i]) := by
 obtain ⟨g, o, e, d0⟩ := ucell_at h hi
 exact ⟨g, o, e, fun w' hb => below_cell hb d0⟩
theorem FieldD.allA {w : World} {x : L FieldD} (h : LOk w 2 FieldD.cells x) (h0 : 0 < x.l.length) :
  ∃ g o, x.A = some ⟨g, o, none⟩ ∧ ∀ w', Below w.heap.size w w' → ∀ i (hi : i < x.l.length), w'.cell? ⟨g, o + i * 2, none⟩ = some (.string x.l[i].name) ∧ w'.cell? ⟨g, o + i * 2 + 1, none⟩ = some (.int .i64 x.l[i].width) := by
 rcases h.2 with e | ⟨g, o, e, _, hc⟩
 · rw [e] at h0; cases h0
 · exact ⟨g, o, e, fun w' hb i hi => ⟨below_cell hb (hc i hi 0 (by omega)), below_cell hb (hc i hi 1 (by omega))⟩⟩
theorem HeaderD.allA {w : World} {x : L HeaderD} (h : LOk w 2 HeaderD.cells x) (h0 : 0 < x.l.length) :
  ∃ g o, x.A = some ⟨g, o, none⟩ ∧ ∀ w', Below w.heap.size w w' → ∀ i (hi : i < x.l.length), w'.cell? ⟨g, o + i * 2, none⟩ = some (.string x.l[i].name) ∧ w'.cell? ⟨g, o + i * 2 + 1, none⟩ = some (.slice x.l[i].fields.A x.l[i].fields.l.length x.l[i].fields.c) := by
 rcases h.2 with e | ⟨g, o, e, _, hc⟩
 · rw [e] at h0; cases h0
 · exact ⟨g, o, e, fun w' hb i hi => ⟨below_cell hb (hc i hi 0 (by omega)), below_cell hb (hc i hi 1 (by omega))⟩⟩
theorem RegD.allA {w : World} {x : L RegD} (h : LOk w 3 RegD.cells x) (h0 : 0 < x.l.length) :
  ∃ g o, x.A = some ⟨g, o, none⟩ ∧ ∀ w', Below w.heap.size w w' → ∀ i (hi : i < x.l.length), w'.cell? ⟨g, o + i * 3, none⟩ = some (.string x.l[i].name) ∧ w'.cell? ⟨g, o + i * 3 + 1, none⟩ = some (.int .i64 x.l[i].width) ∧ w'.cell? ⟨g, o + i * 3 + 2, none⟩ = some (.int .i64 x.l[i].size) := by
 rcases h.2 with e | ⟨g, o, e, _, hc⟩
 · rw [e] at h0; cases h0
 · exact ⟨g, o, e, fun w' hb i hi => ⟨below_cell hb (hc i hi 0 (by omega)), below_cell hb (hc i hi 1 (by omega)), below_cell hb (hc i hi 2 (by omega))⟩⟩
theorem ActD.allA {w : World} {x : L ActD} (h : LOk w 3 ActD.cells x) (h0 : 0 < x.l.length) :
  ∃ g o, x.A = some ⟨g, o, none⟩ ∧ ∀ w', Below w.heap.size w w' → ∀ i (hi : i < x.l.length), w'.cell? ⟨g, o + i * 3, none⟩ = some (.string x.l[i].name) ∧ w'.cell? ⟨g, o + i * 3 + 1, none⟩ = some (.slice x.l[i].params.A x.l[i].params.l.length x.l[i].params.c) ∧ w'.cell? ⟨g, o + i * 3 + 2, none⟩ = some (.slice x.l[i].body.A x.l[i].body.l.length x.l[i].body.c) := by
 rcases h.2 with e | ⟨g, o, e, _, hc⟩
 · rw [e] at h0; cases h0
 · exact ⟨g, o, e, fun w' hb i hi => ⟨below_cell hb (hc i hi 0 (by omega)), below_cell hb (hc i hi 1 (by omega)), below_cell hb (hc i hi 2 (by omega))⟩⟩
theorem TabD.allA {w : World} {x : L TabD} (h : LOk w 6 TabD.cells x) (h0 : 0 < x.l.length) :
  ∃ g o, x.A = some ⟨g, o, none⟩ ∧ ∀ w', Below w.heap.size w w' → ∀ i (hi : i < x.l.length), w'.cell? ⟨g, o + i * 6, none⟩ = some (.string x.l[i].name) ∧ w'.cell? ⟨g, o + i * 6 + 1, none⟩ = some (.slice x.l[i].keys.A x.l[i].keys.l.length x.l[i].keys.c) ∧ w'.cell? ⟨g, o + i * 6 + 2, none⟩ = some (.slice x.l[i].acts.A x.l[i].acts.l.length x.l[i].acts.c) ∧ w'.cell? ⟨g, o + i * 6 + 3, none⟩ = some (.int .i64 x.l[i].defA) ∧ w'.cell? ⟨g, o + i * 6 + 4, none⟩ = some (.slice x.l[i].args.A x.l[i].args.l.length x.l[i].args.c) ∧ w'.cell? ⟨g, o + i * 6 + 5, none⟩ = some (.int .i64 x.l[i].size) := by
 rcases h.2 with e | ⟨g, o, e, _, hc⟩
 · rw [e] at h0; cases h0
 · exact ⟨g, o, e, fun w' hb i hi => ⟨below_cell hb (hc i hi 0 (by omega)), below_cell hb (hc i hi 1 (by omega)), below_cell hb (hc i hi 2 (by omega)), below_cell hb (hc i hi 3 (by omega)), below_cell hb (hc i hi 4 (by omega)), below_cell hb (hc i hi 5 (by omega))⟩⟩
theorem StateD.allA {w : World} {x : L StateD} (h : LOk w 7 StateD.cells x) (h0 : 0 < x.l.length) :
  ∃ g o, x.A = some ⟨g, o, none⟩ ∧ ∀ w', Below w.heap.size w w' → ∀ i (hi : i < x.l.length), w'.cell? ⟨g, o + i * 7, none⟩ = some (.string x.l[i].name) ∧ w'.cell? ⟨g, o + i * 7 + 1, none⟩ = some (.slice x.l[i].extract.A x.l[i].extract.l.length x.l[i].extract.c) ∧ w'.cell? ⟨g, o + i * 7 + 2, none⟩ = some (.bool x.l[i].sel) ∧ w'.cell? ⟨g, o + i * 7 + 3, none⟩ = some (.int .i64 x.l[i].oh) ∧ w'.cell? ⟨g, o + i * 7 + 4, none⟩ = some (.int .i64 x.l[i].of) ∧ w'.cell? ⟨g, o + i * 7 + 5, none⟩ = some (.slice x.l[i].cases.A x.l[i].cases.l.length x.l[i].cases.c) ∧ w'.cell? ⟨g, o + i * 7 + 6, none⟩ = some (.int .i64 x.l[i].dflt) := by
 rcases h.2 with e | ⟨g, o, e, _, hc⟩
 · rw [e] at h0; cases h0
 · exact ⟨g, o, e, fun w' hb i hi => ⟨below_cell hb (hc i hi 0 (by omega)), below_cell hb (hc i hi 1 (by omega)), below_cell hb (hc i hi 2 (by omega)), below_cell hb (hc i hi 3 (by omega)), below_cell hb (hc i hi 4 (by omega)), below_cell hb (hc i hi 5 (by omega)), below_cell hb (hc i hi 6 (by omega))⟩⟩
theorem CtlD.allA {w : World} {x : L CtlD} (h : LOk w 5 CtlD.cells x) (h0 : 0 < x.l.length) :
  ∃ g o, x.A = some ⟨g, o, none⟩ ∧ ∀ w', Below w.heap.size w w' → ∀ i (hi : i < x.l.length), w'.cell? ⟨g, o + i * 5, none⟩ = some (.int .i64 x.l[i].kind) ∧ w'.cell? ⟨g, o + i * 5 + 1, none⟩ = some (.int .i64 x.l[i].table) ∧ w'.cell? ⟨g, o + i * 5 + 2, none⟩ = some (.slice x.l[i].cond.A x.l[i].cond.l.length x.l[i].cond.c) ∧ w'.cell? ⟨g, o + i * 5 + 3, none⟩ = some (.slice x.l[i].th.A x.l[i].th.l.length x.l[i].th.c) ∧ w'.cell? ⟨g, o + i * 5 + 4, none⟩ = some (.slice x.l[i].el.A x.l[i].el.l.length x.l[i].el.c) := by
 rcases h.2 with e | ⟨g, o, e, _, hc⟩
 · rw [e] at h0; cases h0
 · exact ⟨g, o, e, fun w' hb i hi => ⟨below_cell hb (hc i hi 0 (by omega)), below_cell hb (hc i hi 1 (by omega)), below_cell hb (hc i hi 2 (by omega)), below_cell hb (hc i hi 3 (by omega)), below_cell hb (hc i hi 4 (by omega))⟩⟩
theorem icell_allA {w : World} {x : L Int} (h : LOk w 1 icell x) (h0 : 0 < x.l.length) : ∃ g o, x.A = some ⟨g, o, none⟩ ∧ ∀ w', Below w.heap.size w w' → ∀ i (hi : i < x.l.length), w'.cell? ⟨g, o + i, none⟩ = some (.int .i64 x.l[i]) := by
 rcases h.2 with e | ⟨g, o, e, _, hc⟩
 · rw [e] at h0; cases h0
 · exact ⟨g, o, e, fun w' hb i hi => below_cell hb (by have := hc i hi 0 (by omega); rw [Nat.mul_one] at this; exact this)⟩
theorem arity_any (op : Int) (w : World) : Calls Tryz.prog 270 #[.int .i64 op] w fun e w' => e = .returned (.int .i64 (arityM op)) ∧ w = w' := by
 by_cases h : 1 ≤ op ∧ op ≤ 17
 ·
  have hd : op = 1 ∨ op = 2 ∨ op = 3 ∨ op = 4 ∨ op = 5 ∨ op = 6 ∨ op = 7 ∨ op = 8 ∨ op = 9 ∨ op = 10 ∨ op = 11 ∨ op = 12 ∨ op = 13 ∨ op = 14 ∨ op = 15 ∨ op = 16 ∨ op = 17 := by omega
  rcases hd with rfl | rfl | rfl | rfl | rfl | rfl | rfl | rfl | rfl | rfl | rfl | rfl | rfl | rfl | rfl | rfl | rfl
  all_goals
   go_enter Tryz.func270, Tryz.ntmps270
   go_wp2
   go_ret
   exact ⟨rfl, rfl⟩
 ·
  have HR := hi_ (show arityM op = -1 by unfold arityM; repeat' split <;> omega)
  have hn : ∀ k : Int, 1 ≤ k → k ≤ 17 → (op == k) = false := fun k h1 h2 => bf_ (by omega)
  have n1 := hn 1 (by decide) (by decide)
  have n2 := hn 2 (by decide) (by decide)
  have n3 := hn 3 (by decide) (by decide)
  have n4 := hn 4 (by decide) (by decide)
  have n5 := hn 5 (by decide) (by decide)
  have n6 := hn 6 (by decide) (by decide)
  have n7 := hn 7 (by decide) (by decide)
  have n8 := hn 8 (by decide) (by decide)
  have n9 := hn 9 (by decide) (by decide)
  have n10 := hn 10 (by decide) (by decide)
  have n11 := hn 11 (by decide) (by decide)
  have n12 := hn 12 (by decide) (by decide)
  have n13 := hn 13 (by decide) (by decide)
  have n14 := hn 14 (by decide) (by decide)
  have n15 := hn 15 (by decide) (by decide)
  have n16 := hn 16 (by decide) (by decide)
  have n17 := hn 17 (by decide) (by decide)
  clear h hn
  go_enter Tryz.func270, Tryz.ntmps270
  go_wp2
  go_ret
  exact ⟨by rw [HR.out]; rfl, rfl⟩
theorem wideM_ok {n : Int} (h : okW n = true) : wideM n = (n, 0) := if_pos h
theorem wideM_bad {n : Int} (h : okW n = false) : wideM n = (0, 10) := if_neg (by rw [h]; simp)
theorem okW_iff {n : Int} : okW n = true ↔ 1 ≤ n ∧ n ≤ 32 := by simp [okW]
theorem okW_not {n : Int} : okW n = false ↔ n < 1 ∨ 32 < n := by
 rw [← Bool.not_eq_true, okW_iff]; omega
theorem wide_any (n : Int) (w : World) : Calls Tryz.prog 280 #[.int .i64 n] w fun e w' => e = .returned (.tuple #[.int .i64 (wideM n).1, .int .i64 (wideM n).2]) ∧ w = w' := by
 cases h : okW n
 ·
  have HR := hi_ (wideM_bad h)
  have h' := okW_not.1 h
  rcases h' with h1 | h1
  all_goals
   go_enter Tryz.func280, Tryz.ntmps280
   go_wp2
   go_ret2
   exact ⟨by rw [HR.out]; rfl, rfl⟩
 ·
  have HR := hi_ (wideM_ok h)
  obtain ⟨h1, h2⟩ := okW_iff.1 h
  go_enter Tryz.func280, Tryz.ntmps280
  go_wp2
  go_ret2
  exact ⟨by rw [HR.out]; rfl, rfl⟩
@[reducible] def scopeCells (p : ProgD) (ps : L FieldD) : Array Value := #[.string p.name, .slice p.headers.A p.headers.l.length p.headers.c, .slice p.metadata.A p.metadata.l.length p.metadata.c,
 .slice p.registers.A p.registers.l.length p.registers.c, .slice p.actions.A p.actions.l.length p.actions.c, .slice p.tables.A p.tables.l.length p.tables.c,
 .slice p.states.A p.states.l.length p.states.c, .slice p.control.A p.control.l.length p.control.c, .slice p.deparser.A p.deparser.l.length p.deparser.c, .slice ps.A ps.l.length ps.c]
theorem fieldsOf_cases (p : ProgD) (h : Int) : (h = -1 ∧ fieldsOf p h = some p.metadata) ∨ (h ≠ -1 ∧ (h < 0 ∨ (p.headers.l.length : Int) ≤ h) ∧ fieldsOf p h = none) ∨
  ∃ k : Nat, ∃ hk : k < p.headers.l.length, h = k ∧ fieldsOf p h = some p.headers.l[k].fields := by
 by_cases h1 : h = -1
 · exact .inl ⟨h1, by rw [fieldsOf, if_pos h1]⟩
 ·
  by_cases h2 : h < 0
  · exact .inr (.inl ⟨h1, .inl h2, by rw [fieldsOf, if_neg h1, if_pos h2]⟩)
  ·
   obtain ⟨k, rfl⟩ : ∃ k : Nat, h = k := ⟨h.toNat, by omega⟩
   by_cases h3 : k < p.headers.l.length
   · exact .inr (.inr ⟨k, h3, rfl, by rw [fieldsOf, if_neg h1, if_neg h2]; simp [h3]⟩)
   · exact .inr (.inl ⟨h1, .inr (by omega), by rw [fieldsOf, if_neg h1, if_neg h2]; simp [List.getElem?_eq_none (Nat.le_of_not_lt h3)]⟩)
theorem declF_cases {p : ProgD} {h : Int} {x : L FieldD} (hx : fieldsOf p h = some x) (f : Int) : ((f < 0 ∨ (x.l.length : Int) ≤ f) ∧ declF p h f = none) ∨ ∃ k : Nat, ∃ hk : k < x.l.length, f = k ∧ declF p h f = some x.l[k] := by
 by_cases h1 : f < 0
 · exact .inl ⟨.inl h1, by rw [declF, hx]; exact if_pos h1⟩
 ·
  obtain ⟨k, rfl⟩ : ∃ k : Nat, f = k := ⟨f.toNat, by omega⟩
  by_cases h2 : k < x.l.length
  · exact .inr ⟨k, h2, rfl, by rw [declF, hx]; simp [h1, h2]⟩
  · exact .inl ⟨.inr (by omega), by rw [declF, hx]; simp [h1, List.getElem?_eq_none (Nat.le_of_not_lt h2)]⟩
theorem declF_none {p : ProgD} {h : Int} (hx : fieldsOf p h = none) (f : Int) : declF p h f = none := by rw [declF, hx]
def foundV (d : Option FieldD) : Value := .tuple #[.agg #[.string (d.getD noField).name, .int .i64 (d.getD noField).width], .bool d.isSome]
theorem sfield_any (p : ProgD) (ps : L FieldD) (h f : Int) (w : World) (o : ProgOk w p) :
  Calls Tryz.prog 281 #[.agg (scopeCells p ps), .int .i64 h, .int .i64 f] w fun e w' => e = .returned (foundV (declF p h f)) ∧ Below w.heap.size w w' := by
 have HO := hi_ o
 clear o
 have hca := @World.cell?_alloc_some
 rcases fieldsOf_cases p h with ⟨rfl, hx⟩ | ⟨h1, h2, hx⟩ | ⟨k, hk, rfl, hx⟩
 ·
  rcases declF_cases hx f with ⟨h3, hd⟩ | ⟨j, hj, rfl, hd⟩
  ·
   have HR := hi_ hd
   clear hd hx
   rcases h3 with h3 | h3
   all_goals
    go_enter Tryz.func281, Tryz.ntmps281
    go_wp2
    refine bodyPost_ret (v := foundV none) (by simp [results, Tryz.results281, go_sem, foundV, noField]) rfl ⟨by rw [HR.out], below2 _ _ _⟩
  ·
   have HR := hi_ hd
   obtain ⟨g, of, hA, d0, d1⟩ := FieldD.at HO.out.metadata hj
   simp only [scopeCells, hA]
   clear hd hx hA
   generalize p.metadata.l[j] = y at *
   go_enter Tryz.func281, Tryz.ntmps281
   go_wp2
   refine bodyPost_ret (v := foundV (some y)) (by simp [results, Tryz.results281, go_sem, foundV]) rfl ⟨by rw [HR.out], below2 _ _ _⟩
 ·
  have HR := hi_ (declF_none hx f)
  have h1' : (h == -1) = false := bf_ h1
  clear hx
  rcases h2 with h2 | h2
  all_goals
   go_enter Tryz.func281, Tryz.ntmps281
   go_wp2
   refine bodyPost_ret (v := foundV none) (by simp [results, Tryz.results281, go_sem, foundV, noField]) rfl ⟨by rw [HR.out], below2 _ _ _⟩
 ·
  obtain ⟨g, of, hA, d0, d1⟩ := HeaderD.at HO.out.headers hk
  have HF := hi_ (HO.out.hdr _ (List.getElem_mem hk)).fields
  have h1' : ((k : Int) == -1) = false := bf_ (by omega)
  simp only [scopeCells, hA]
  clear hA
  generalize p.headers.l[k] = x at *
  obtain ⟨xn, ⟨fl, fA, fc⟩⟩ := x
  simp only [L.v] at d1
  rcases declF_cases hx f with ⟨h3, hd⟩ | ⟨j, hj, rfl, hd⟩
  ·
   have HR := hi_ hd
   simp only at h3
   clear hd hx
   rcases h3 with h3 | h3
   all_goals
    go_enter Tryz.func281, Tryz.ntmps281
    go_wp2
    refine bodyPost_ret (v := foundV none) (by simp [results, Tryz.results281, go_sem, foundV, noField]) rfl ⟨by rw [HR.out], below2 _ _ _⟩
  ·
   have HR := hi_ hd
   obtain ⟨g2, of2, hA, e0, e1⟩ := FieldD.at HF.out hj
   simp only at hA hj e0 e1
   subst hA
   clear hd hx
   generalize fl[j] = y at *
   go_enter Tryz.func281, Tryz.ntmps281
   go_wp2
   refine bodyPost_ret (v := foundV (some y)) (by simp [results, Tryz.results281, go_sem, foundV]) rfl ⟨by rw [HR.out], below2 _ _ _⟩
theorem maskM_lt (n : Int) : (maskM n : Int) ≤ 4294967295 := by
 unfold maskM
 split
 ·
  have h := okW_iff.1 (by assumption)
  have h2 : 2 ^ n.toNat ≤ 2 ^ 32 := Nat.pow_le_pow_right (by omega) (by omega)
  omega
 · simp
theorem ret_pp {a b : Int} {r : Int × Int} (h : r = (a, b)) : Ending.returned (.tuple #[.int .i64 a, .int .i64 b]) = .returned (.tuple #[.int .i64 r.1, .int .i64 r.2]) := by rw [h]
theorem primary_any (p : ProgD) (ps : L FieldD) (op n wd : Int) (w : World) (o : ProgOk w p) (hps : LOk w 2 FieldD.cells ps) :
  Calls Tryz.prog 271 #[.agg (scopeCells p ps), .agg #[.int .i64 op, .int .i64 n, .int .i64 wd]] w fun e w' =>
   e = .returned (.tuple #[.int .i64 (primM p ps.l ⟨op, n, wd⟩).1, .int .i64 (primM p ps.l ⟨op, n, wd⟩).2]) ∧ Below w.heap.size w w' := by
 have HO := hi_ o
 have HP := hi_ hps
 clear o hps
 obtain ⟨W, hW, hw, HB, hp⟩ := box2 w (scopeCells p ps) 217 #[.int .i64 op, .int .i64 n, .int .i64 wd] 302
 have HW := hi_ hw
 clear hw
 have HR := hi_ (primM.eq_1 p ps.l ⟨op, n, wd⟩)
 by_cases k1 : op = 1
 ·
  subst k1
  replace HR := tr_ HR (if_pos rfl)
  have hm := maskM_lt wd
  have hwr : IntKind.i64.wrap (maskM wd : Int) = (maskM wd : Int) := IntWalk.i64_in _ (by omega)
  go_enter Tryz.func271, Tryz.ntmps271
  go_wp2_with fail
  rw [← hW]
  clear hW
  refine (wide_any wd _).mono ?_
  rintro e w' ⟨rfl, rfl⟩
  cases hv : okW wd
  ·
   replace HR := tr_ HR (if_neg (show ¬ okW wd = true by rw [hv]; simp))
   rw [wideM_bad hv]
   go_wp2
   go_quiet (fail)
   go_wp2
   go_ret2
   exact ⟨ret_pp HR.out, below_step HW.out (below_drewN HB _)⟩
  ·
   replace HR := tr_ HR (if_pos hv)
   rw [wideM_ok hv]
   by_cases k2 : n < 0
   ·
    replace HR := tr_ HR (if_pos (.inl k2))
    have k2' : decide (n < 0) = true := decide_eq_true k2
    go_wp2
    go_quiet (fail)
    go_wp2
    go_ret2
    exact ⟨ret_pp HR.out, below_step HW.out (below_drewN HB _)⟩
   ·
    have k2' : decide (n < 0) = false := decide_eq_false k2
    by_cases k3 : (maskM wd : Int) < n
    all_goals
     first
      | replace HR := tr_ HR (if_pos (Or.inr k3))
      | replace HR := tr_ HR (if_neg (show ¬ (n < 0 ∨ (maskM wd : Int) < n) from fun h => h.elim k2 k3))
     have H0 := hi_ HB
     clear HB
     go_wp2
     go_region_held3 (fun w' => Below W.heap.size W w') (first | exact H0.out | exact below_drew H0.out | (exact below_step (by assumption) (by assumption)) | assumption)
      (first | (go_at_call 153; refine (mask_any wd _).mono ?_; rintro e w1 ⟨rfl, hb1⟩))
     have HB5 : Hid (Below W.heap.size W _) := hi_ (by assumption)
     have HB := HB5.out
     go_wp2
     go_ret2
     exact ⟨ret_pp HR.out, below_step HW.out HB⟩
 replace HR := tr_ HR (if_neg k1)
 have k1' : (op == 1) = false := bf_ k1
 by_cases k2 : op = 2
 ·
  subst k2
  replace HR := tr_ HR (if_pos rfl)
  have hca := @World.cell?_alloc_some
  go_enter Tryz.func271, Tryz.ntmps271
  go_wp2_with fail
  rw [← hW]
  clear hW
  refine (sfield_any p ps n wd _ (HO.out.below (below_step HW.out (by first | exact HB | exact ba1 HB | exact ba2 HB | exact ba3 HB)))).mono ?_
  rintro e w1 ⟨rfl, hbN⟩
  replace HB := below_step (by first | exact HB | exact ba1 HB | exact ba2 HB | exact ba3 HB) hbN
  clear hbN
  rcases hd : declF p n wd with _ | y
  ·
   simp only [declM, hd, Option.map_none] at HR
   simp only [foundV, Option.getD_none, Option.isSome_none]
   go_wp2
   go_ret2
   exact ⟨ret_pp HR.out, below_step HW.out (by first | exact HB | exact ba1 HB | exact ba2 HB | exact ba3 HB)⟩
  ·
   simp only [declM, hd, Option.map_some] at HR
   simp only [foundV, Option.getD_some, Option.isSome_some]
   go_wp2_with fail
   refine (wide_any y.width _).mono ?_
   rintro e w' ⟨rfl, rfl⟩
   go_wp2
   go_ret2
   exact ⟨ret_pp HR.out, below_step HW.out (by first | exact HB | exact ba1 HB | exact ba2 HB | exact ba3 HB)⟩
 replace HR := tr_ HR (if_neg k2)
 have k2' : (op == 2) = false := bf_ k2
 by_cases k3 : op = 3
 ·
  subst k3
  replace HR := tr_ HR (if_pos rfl)
  by_cases k4 : n < 0
  ·
   replace HR := tr_ HR (if_pos k4)
   go_enter Tryz.func271, Tryz.ntmps271
   go_wp2
   rw [← hW]
   go_ret2
   exact ⟨ret_pp HR.out, below_step HW.out HB⟩
  ·
   replace HR := tr_ HR (if_neg k4)
   obtain ⟨k, rfl⟩ : ∃ k : Nat, n = k := ⟨n.toNat, by omega⟩
   by_cases k5 : k < ps.l.length
   ·
    obtain ⟨g, of, hA, hq⟩ := FieldD.atA (HP.out.below HW.out (Nat.le_refl _)) k5
    have HR2 := hi_ (show primM p ps.l ⟨3, k, wd⟩ = wideM (ps.l[k]).width by rw [HR.out]; simp [k5])
    simp only [scopeCells, hA] at hW hp ⊢
    generalize ps.l[k] = y at *
    go_enter Tryz.func271, Tryz.ntmps271
    go_upto_region 1 with fail
    rw [← hW]
    clear hW
    go_wp2_with fail
    refine (wide_any y.width _).mono ?_
    rintro e w' ⟨rfl, rfl⟩
    go_wp2
    go_ret2
    exact ⟨ret_pp HR2.out, below_step HW.out HB⟩
   ·
    have HR2 := hi_ (show primM p ps.l ⟨3, k, wd⟩ = (0, 8) by rw [HR.out]; simp [List.getElem?_eq_none (Nat.le_of_not_lt k5)])
    go_enter Tryz.func271, Tryz.ntmps271
    go_wp2
    rw [← hW]
    go_ret2
    exact ⟨ret_pp HR2.out, below_step HW.out HB⟩
 replace HR := tr_ HR (if_neg k3)
 have k3' : (op == 3) = false := bf_ k3
 by_cases k4 : n < 0 ∨ (p.headers.l.length : Int) ≤ n
 ·
  replace HR := tr_ HR (if_pos k4)
  rcases k4 with k4 | k4
  all_goals
   go_enter Tryz.func271, Tryz.ntmps271
   go_wp2
   rw [← hW]
   go_ret2
   exact ⟨ret_pp HR.out, below_step HW.out HB⟩
 ·
  replace HR := tr_ HR (if_neg k4)
  go_enter Tryz.func271, Tryz.ntmps271
  go_wp2
  rw [← hW]
  go_ret2
  exact ⟨ret_pp HR.out, below_step HW.out HB⟩
theorem combine_any (op n wd a b c : Int) (w : World) (h1 : 5 ≤ op) (h2 : op ≤ 17) (ha : 0 ≤ a ∧ a ≤ 32) (hb : 0 ≤ b ∧ b ≤ 32) :
  Calls Tryz.prog 272 #[.agg #[.int .i64 op, .int .i64 n, .int .i64 wd], .agg #[.int .i64 a, .int .i64 b, .int .i64 c]] w fun e w' =>
   e = .returned (.tuple #[.int .i64 (combM ⟨op, n, wd⟩ a b c).1, .int .i64 (combM ⟨op, n, wd⟩ a b c).2]) ∧ Below w.heap.size w w' := by
 obtain ⟨ha1, ha2⟩ := ha
 obtain ⟨hb1, hb2⟩ := hb
 have hd : op = 5 ∨ (op = 6 ∨ op = 7) ∨ op = 8 ∨ op = 14 ∨ op = 17 ∨ (op = 9 ∨ op = 10 ∨ op = 11 ∨ op = 12 ∨ op = 13) ∨ op = 15 ∨ op = 16 := by omega
 clear h1 h2
 rcases hd with rfl | h | rfl | rfl | rfl | h | h
 ·
  have HR : Hid (combM ⟨5, n, wd⟩ a b c = (a, 0)) := hi_ (by simp [combM, arityM])
  go_enter Tryz.func272, Tryz.ntmps272
  go_wp2_with fail
  refine (arity_any _ _).mono ?_
  rintro e w' ⟨rfl, rfl⟩
  rw [show arityM 5 = 1 from rfl]
  go_wp2
  go_ret2
  exact ⟨ret_pp HR.out, below2 _ _ _⟩
 ·
  by_cases k : n < 0 ∨ 31 < n
  ·
   have HR : Hid (combM ⟨op, n, wd⟩ a b c = (0, 9)) := hi_ (by simp [combM, h, k])
   rcases h with rfl | rfl
   all_goals
    rcases k with k | k
    all_goals
     go_enter Tryz.func272, Tryz.ntmps272
     go_wp2
     go_ret2
     exact ⟨ret_pp HR.out, below2 _ _ _⟩
  ·
   have HR : Hid (combM ⟨op, n, wd⟩ a b c = (a, 0)) := hi_ (by simp [combM, h, k])
   obtain ⟨k1, k2⟩ : 0 ≤ n ∧ n ≤ 31 := by omega
   clear k
   rcases h with rfl | rfl
   all_goals
    go_enter Tryz.func272, Tryz.ntmps272
    go_wp2_with fail
    refine (arity_any _ _).mono ?_
    rintro e w' ⟨rfl, rfl⟩
    first | rw [show arityM 6 = 1 from rfl] | rw [show arityM 7 = 1 from rfl]
    go_wp2
    go_ret2
    exact ⟨ret_pp HR.out, below2 _ _ _⟩
 ·
  by_cases k : n < 0
  ·
   have HR : Hid (combM ⟨8, n, wd⟩ a b c = (0, 9)) := hi_ (by simp [combM, k])
   go_enter Tryz.func272, Tryz.ntmps272
   go_wp2
   go_ret2
   exact ⟨ret_pp HR.out, below2 _ _ _⟩
  ·
   cases hv : okW wd
   ·
    have HR : Hid (combM ⟨8, n, wd⟩ a b c = (0, 10)) := hi_ (by simp [combM, k, hv])
    go_enter Tryz.func272, Tryz.ntmps272
    go_wp2_with fail
    refine (wide_any _ _).mono ?_
    rintro e w' ⟨rfl, rfl⟩
    rw [wideM_bad hv]
    go_wp2
    go_ret2
    exact ⟨ret_pp HR.out, below2 _ _ _⟩
   ·
    obtain ⟨w1, w2⟩ := okW_iff.1 hv
    by_cases k2 : a - wd < n
    ·
     have HR : Hid (combM ⟨8, n, wd⟩ a b c = (0, 10)) := hi_ (by simp [combM, k, k2])
     go_enter Tryz.func272, Tryz.ntmps272
     go_wp2_with fail
     refine (wide_any _ _).mono ?_
     rintro e w' ⟨rfl, rfl⟩
     rw [wideM_ok hv]
     go_wp2
     go_ret2
     exact ⟨ret_pp HR.out, below2 _ _ _⟩
    ·
     have HR : Hid (combM ⟨8, n, wd⟩ a b c = (wd, 0)) := hi_ (by simp [combM, k, k2, hv])
     go_enter Tryz.func272, Tryz.ntmps272
     go_wp2_with fail
     refine (wide_any _ _).mono ?_
     rintro e w' ⟨rfl, rfl⟩
     rw [wideM_ok hv]
     go_wp2
     go_ret2
     exact ⟨ret_pp HR.out, below2 _ _ _⟩
 ·
  have HR : Hid (combM ⟨14, n, wd⟩ a b c = wideM (a + b)) := hi_ (by simp [combM])
  go_enter Tryz.func272, Tryz.ntmps272
  go_wp2_with fail
  refine (wide_any _ _).mono ?_
  rintro e w' ⟨rfl, rfl⟩
  go_wp2
  go_ret2
  exact ⟨ret_pp HR.out, below2 _ _ _⟩
 ·
  by_cases k : a = 1
  ·
   by_cases k2 : b = c
   ·
    have HR : Hid (combM ⟨17, n, wd⟩ a b c = (b, 0)) := hi_ (by simp [combM, k, k2])
    subst k k2
    go_enter Tryz.func272, Tryz.ntmps272
    go_wp2
    go_ret2
    exact ⟨ret_pp HR.out, below2 _ _ _⟩
   ·
    have HR : Hid (combM ⟨17, n, wd⟩ a b c = (0, 10)) := hi_ (by simp [combM, k, k2])
    have k2' : (b == c) = false := bf_ k2
    subst k
    go_enter Tryz.func272, Tryz.ntmps272
    go_wp2
    go_ret2
    exact ⟨ret_pp HR.out, below2 _ _ _⟩
  ·
   have HR : Hid (combM ⟨17, n, wd⟩ a b c = (0, 10)) := hi_ (by simp [combM, k])
   have k' : (a == 1) = false := bf_ k
   go_enter Tryz.func272, Tryz.ntmps272
   go_wp2
   go_ret2
   exact ⟨ret_pp HR.out, below2 _ _ _⟩
 ·
  have ho : arityM op = 2 := by unfold arityM; repeat' split <;> omega
  have h' : op ≠ 6 ∧ op ≠ 7 ∧ op ≠ 8 ∧ op ≠ 14 ∧ op ≠ 17 ∧ op ≠ 15 ∧ op ≠ 16 := by omega
  obtain ⟨n6, n7, n8, n14, n17, n15, n16⟩ := h'
  by_cases k : a = b
  ·
   have HR : Hid (combM ⟨op, n, wd⟩ a b c = (a, 0)) := hi_ (by simp [combM, n6, n7, n8, n14, n17, n15, n16, k])
   clear n6 n7 n8 n14 n17 n15 n16
   subst k
   rcases h with rfl | rfl | rfl | rfl | rfl
   all_goals
    go_enter Tryz.func272, Tryz.ntmps272
    go_wp2_with fail
    refine (arity_any _ _).mono ?_
    rintro e w' ⟨rfl, rfl⟩
    rw [ho]
    go_wp2
    go_ret2
    exact ⟨ret_pp HR.out, below2 _ _ _⟩
  ·
   have HR : Hid (combM ⟨op, n, wd⟩ a b c = (0, 10)) := hi_ (by simp [combM, n6, n7, n8, n14, n17, ho, k])
   have k' : (a == b) = false := bf_ k
   clear n6 n7 n8 n14 n17 n15 n16
   rcases h with rfl | rfl | rfl | rfl | rfl
   all_goals
    go_enter Tryz.func272, Tryz.ntmps272
    go_wp2_with fail
    refine (arity_any _ _).mono ?_
    rintro e w' ⟨rfl, rfl⟩
    rw [ho]
    go_wp2
    go_ret2
    exact ⟨ret_pp HR.out, below2 _ _ _⟩
 ·
  have ho : arityM op = 2 := by unfold arityM; repeat' split <;> omega
  have h' : op ≠ 6 ∧ op ≠ 7 ∧ op ≠ 8 ∧ op ≠ 14 ∧ op ≠ 17 := by omega
  obtain ⟨n6, n7, n8, n14, n17⟩ := h'
  by_cases k : a = b
  ·
   have HR : Hid (combM ⟨op, n, wd⟩ a b c = (1, 0)) := hi_ (by simp [combM, n6, n7, n8, n14, n17, h, k])
   clear n6 n7 n8 n14 n17
   subst k
   rcases h with rfl | rfl
   all_goals
    go_enter Tryz.func272, Tryz.ntmps272
    go_wp2_with fail
    refine (arity_any _ _).mono ?_
    rintro e w' ⟨rfl, rfl⟩
    rw [ho]
    go_wp2
    go_ret2
    exact ⟨ret_pp HR.out, below2 _ _ _⟩
  ·
   have HR : Hid (combM ⟨op, n, wd⟩ a b c = (0, 10)) := hi_ (by simp [combM, n6, n7, n8, n14, n17, ho, k])
   have k' : (a == b) = false := bf_ k
   clear n6 n7 n8 n14 n17
   rcases h with rfl | rfl
   all_goals
    go_enter Tryz.func272, Tryz.ntmps272
    go_wp2_with fail
    refine (arity_any _ _).mono ?_
    rintro e w' ⟨rfl, rfl⟩
    rw [ho]
    go_wp2
    go_ret2
    exact ⟨ret_pp HR.out, below2 _ _ _⟩
theorem wideM_fine (n : Int) (h : (wideM n).2 = 0) : 1 ≤ (wideM n).1 ∧ (wideM n).1 ≤ 32 := by
 unfold wideM at *
 split
 · exact okW_iff.1 (by assumption)
 ·
  rename_i h1
  rw [if_neg h1] at h
  cases h
theorem primM_fine (p : ProgD) (ps : List FieldD) (x : NodeD) (h : (primM p ps x).2 = 0) : 1 ≤ (primM p ps x).1 ∧ (primM p ps x).1 ≤ 32 := by
 unfold primM at *
 split at h
 ·
  rename_i h1
  rw [if_pos h1]
  split at h
  ·
   rename_i h2
   rw [if_pos h2]
   split at h
   · cases h
   ·
    rename_i h3
    rw [if_neg h3]
    exact okW_iff.1 h2
  · cases h
 ·
  rename_i h1
  rw [if_neg h1]
  split at h
  ·
   rename_i h2
   rw [if_pos h2]
   split at h
   · cases h
   · exact wideM_fine _ h
  ·
   rename_i h2
   rw [if_neg h2]
   split at h
   ·
    rename_i h3
    rw [if_pos h3]
    split at h
    · cases h
    ·
     rename_i h4
     rw [if_neg h4]
     split at h
     · cases h
     · exact wideM_fine _ h
   ·
    rename_i h3
    rw [if_neg h3]
    split at h
    · cases h
    ·
     rename_i h4
     rw [if_neg h4]
     exact ⟨by decide, by decide⟩
theorem combM_fine (x : NodeD) (a b c : Int) (ha : 1 ≤ a ∧ a ≤ 32) (hb : x.op = 17 → 1 ≤ b ∧ b ≤ 32) (h : (combM x a b c).2 = 0) : 1 ≤ (combM x a b c).1 ∧ (combM x a b c).1 ≤ 32 := by
 unfold combM at *
 split at h
 ·
  rename_i h1
  rw [if_pos h1]
  split at h
  · cases h
  ·
   rename_i h2
   rw [if_neg h2]; exact ha
 ·
  rename_i h1
  rw [if_neg h1]
  split at h
  ·
   rename_i h2
   rw [if_pos h2]
   split at h
   · cases h
   ·
    rename_i h3
    rw [if_neg h3]
    split at h
    · cases h
    ·
     rename_i h4
     rw [if_neg h4]
     have : okW x.w = true := by
      cases hv : okW x.w
      · exact absurd (Or.inl hv) h4
      · rfl
     exact okW_iff.1 this
  ·
   rename_i h2
   rw [if_neg h2]
   split at h
   ·
    rename_i h3
    rw [if_pos h3]
    exact wideM_fine _ h
   ·
    rename_i h3
    rw [if_neg h3]
    split at h
    ·
     rename_i h4
     rw [if_pos h4]
     split at h
     · cases h
     ·
      rename_i h5
      rw [if_neg h5]; exact hb h4
    ·
     rename_i h4
     rw [if_neg h4]
     split at h
     · cases h
     ·
      rename_i h5
      rw [if_neg h5]
      split
      · exact ⟨by decide, by decide⟩
      · exact ha
theorem chkM_fine (p : ProgD) (ps : List FieldD) (l : List NodeD) : ∀ (m i : Nat), (chkM p ps l m i).2.2 = 0 → i < (chkM p ps l m i).2.1 ∧ (chkM p ps l m i).2.1 ≤ l.length ∧ 1 ≤ (chkM p ps l m i).1 ∧ (chkM p ps l m i).1 ≤ 32
 | 0, i, h => by rw [chkM] at h; cases h
 | m + 1, i, h => by
  rw [chkM] at h ⊢
  rcases hx : l[i]? with _ | x
  · rw [hx] at h; cases h
  rw [hx] at h
  simp only at h ⊢
  have hi : i < l.length := (List.getElem?_eq_some_iff.1 hx).1
  by_cases k1 : arityM x.op < 0
  · rw [if_pos k1] at h; cases h
  rw [if_neg k1] at h ⊢
  by_cases k2 : arityM x.op = 0
  ·
   rw [if_pos k2] at h ⊢
   exact ⟨Nat.lt_succ_self i, hi, primM_fine p ps x h⟩
  rw [if_neg k2] at h ⊢
  have f1 := chkM_fine p ps l m (i + 1)
  generalize chkM p ps l m (i + 1) = r1 at *
  by_cases k3 : r1.2.2 = 0
  ·
   rw [if_neg (by simp [k3])] at h ⊢
   obtain ⟨g1, g2, g3⟩ := f1 k3
   by_cases k4 : arityM x.op = 1
   ·
    rw [if_pos k4] at h ⊢
    exact ⟨by simp only; omega, g2, combM_fine x _ _ _ g3 (fun e => by rw [e] at k4; revert k4; decide) h⟩
   rw [if_neg k4] at h ⊢
   have f2 := chkM_fine p ps l m r1.2.1
   generalize chkM p ps l m r1.2.1 = r2 at *
   by_cases k5 : r2.2.2 = 0
   ·
    rw [if_neg (by simp [k5])] at h ⊢
    obtain ⟨g4, g5, g6⟩ := f2 k5
    by_cases k6 : arityM x.op = 2
    ·
     rw [if_pos k6] at h ⊢
     exact ⟨by simp only; omega, g5, combM_fine x _ _ _ g3 (fun _ => g6) h⟩
    rw [if_neg k6] at h ⊢
    have f3 := chkM_fine p ps l m r2.2.1
    generalize chkM p ps l m r2.2.1 = r3 at *
    by_cases k7 : r3.2.2 = 0
    ·
     rw [if_neg (by simp [k7])] at h ⊢
     obtain ⟨g7, g8, g9⟩ := f3 k7
     exact ⟨by simp only; omega, g8, combM_fine x _ _ _ g3 (fun _ => g6) h⟩
    · rw [if_pos k7] at h; exact absurd h k7
   · rw [if_pos k5] at h; exact absurd h k5
  · rw [if_pos k3] at h; exact absurd h k3
theorem arityM_cases (op : Int) : arityM op = -1 ∨ arityM op = 0 ∨ (arityM op = 1 ∧ 5 ≤ op ∧ op ≤ 17) ∨ (arityM op = 2 ∧ 5 ≤ op ∧ op ≤ 17) ∨ (arityM op = 3 ∧ 5 ≤ op ∧ op ≤ 17) := by
 unfold arityM
 repeat' split
 all_goals omega
theorem ret_ppp {a b c : Int} {r : Int × Nat × Int} (h1 : r.1 = a) (h2 : (r.2.1 : Int) = b) (h3 : r.2.2 = c) :
  Ending.returned (.tuple #[.int .i64 a, .int .i64 b, .int .i64 c]) = .returned (.tuple #[.int .i64 r.1, .int .i64 (r.2.1 : Int), .int .i64 r.2.2]) := by rw [h1, h2, h3]
@[reducible] def arr3 (a b c : Int) : Array Value := #[.int .i64 a, .int .i64 b, .int .i64 c]
theorem chk_any (p : ProgD) (ps : L FieldD) (x : L NodeD) (hle : x.l.length ≤ 24) : ∀ (m i : Nat) (w : World), x.l.length < i + m → i ≤ x.l.length → ProgOk w p → LOk w 2 FieldD.cells ps → LOk w 3 NodeD.cells x →
  Calls Tryz.prog 253 #[.agg (scopeCells p ps), .slice x.A x.l.length x.c, .int .i64 i] w fun e w' =>
   e = .returned (.tuple #[.int .i64 (chkM p ps.l x.l m i).1, .int .i64 ((chkM p ps.l x.l m i).2.1 : Int), .int .i64 (chkM p ps.l x.l m i).2.2]) ∧ Below w.heap.size w w'
 | 0, i, w, h1, h2, _, _, _ => absurd h1 (by omega)
 | m + 1, i, w, h1, h2, o, hps, hx => by
  have IH := hi_ (chk_any p ps x hle m)
  have HO := hi_ o
  have HP := hi_ hps
  have HX := hi_ hx
  have HC := hi_ (chkM.eq_2 p ps.l x.l i m)
  clear o hps hx
  obtain ⟨W, hW, hw, HB, hp⟩ := box1 w (scopeCells p ps) 217
  have HW := hi_ hw
  clear hw
  by_cases k0 : i < x.l.length
  case neg =>
   have HR : Hid (chkM p ps.l x.l (m + 1) i = (0, 0, 3)) := hi_ (by rw [HC.out, List.getElem?_eq_none (by omega)])
   go_enter Tryz.func253, Tryz.ntmps253
   go_wp2
   go_ret3
   exact ⟨ret_ppp (by rw [HR.out]) (by rw [HR.out]; rfl) (by rw [HR.out]), below1 _ _⟩
  case pos =>
   have HC2 := hi_ (show chkM p ps.l x.l (m + 1) i = _ by rw [HC.out, List.getElem?_eq_getElem k0])
   simp only at HC2
   obtain ⟨g, of, hA, hq⟩ := NodeD.atA (HX.out.below HW.out (Nat.le_refl _)) k0
   clear HC
   generalize x.l[i] = y at *
   obtain ⟨op, n, wd⟩ := y
   simp only at hq HC2
   simp only [hA]
   have IH2 : Hid (∀ (j : Nat) (w' : World), i < j → j ≤ x.l.length → Below W.heap.size W w' →
     Calls Tryz.prog 253 #[.agg (scopeCells p ps), .slice (some ⟨g, of, none⟩) x.l.length x.c, .int .i64 j] w' fun e w2 =>
      e = .returned (.tuple #[.int .i64 (chkM p ps.l x.l m j).1, .int .i64 ((chkM p ps.l x.l m j).2.1 : Int), .int .i64 (chkM p ps.l x.l m j).2.2]) ∧ Below w'.heap.size w' w2) :=
    hi_ (by
     intro j w' h3 h4 hb
     have := IH.out j w' (by omega) h4 (HO.out.below (below_step HW.out hb)) (HP.out.below (below_step HW.out hb) (Nat.le_refl _)) (HX.out.below (below_step HW.out hb) (Nat.le_refl _))
     rw [hA] at this
     exact this)
   have hca := @World.cell?_alloc_some
   have hn1 : (i : Int) < (x.l.length : Int) := by omega
   have hn2 : (i : Int) + 1 ≤ (x.l.length : Int) := by omega
   clear IH h1 h2 hA
   have hk := arityM_cases op
   go_enter Tryz.func253, Tryz.ntmps253
   go_upto_region 1 with fail
   rw [← hW]
   clear hW
   go_wp2_with fail
   refine (arity_any op _).mono ?_
   rintro e w' ⟨rfl, rfl⟩
   generalize hko : arityM op = ko at *
   rcases hk with rfl | rfl | ⟨rfl, o1, o2⟩ | ⟨rfl, o1, o2⟩ | ⟨rfl, o1, o2⟩
   ·
    have HR : Hid (chkM p ps.l x.l (m + 1) i = (0, 0, 11)) := hi_ (by rw [HC2.out]; rfl)
    go_wp2
    go_ret3
    exact ⟨ret_ppp (by rw [HR.out]) (by rw [HR.out]; rfl) (by rw [HR.out]), below_step HW.out HB⟩
   ·
    have HR : Hid (chkM p ps.l x.l (m + 1) i = ((primM p ps.l ⟨op, n, wd⟩).1, i + 1, (primM p ps.l ⟨op, n, wd⟩).2)) := hi_ (by rw [HC2.out]; rfl)
    have H0 := hi_ HB
    clear HB
    go_wp2
    go_region_held3 (fun w' => Below W.heap.size W w') (first | exact H0.out | exact below_drew H0.out | (exact below_step (by assumption) (by assumption)) | assumption)
     (first | (go_at_call 271; refine (primary_any p ps op n wd _ (HO.out.below (below_step HW.out (by assumption))) (HP.out.below (below_step HW.out (by assumption)) (Nat.le_refl _))).mono ?_; rintro e w1 ⟨rfl, hb1⟩))
    have HB5 : Hid (Below W.heap.size W _) := hi_ (by assumption)
    have HB := HB5.out
    go_wp2
    go_ret3
    exact ⟨ret_ppp (by rw [HR.out]) (by rw [HR.out]; simp only; omega) (by rw [HR.out]), below_step HW.out HB⟩
   ·
    skip
    refine Exists.elim (⟨_, rfl⟩ : ∃ U, U = W.alloc (.cells (arr3 0 0 0) 304)) fun U hU => ?_
    have hB : Blk U W.heap.size 304 (arr3 0 0 0) := by rw [hU]; exact Blk.new _ _ _
    replace HB : Below W.heap.size W U := by rw [hU]; exact below1 _ _
    go_wp2
    rw [← hU]
    clear hU
    refine wp_loop_rounds 2 ?_
    rw [rounds_succ]
    have f1 := chkM_fine p ps.l x.l m (i + 1)
    go_wp2_with fail
    have hI := IH2.out (i + 1) _ (by omega) (by omega) HB
    rw [show ((i + 1 : Nat) : Int) = (i : Int) + 1 by omega] at hI
    refine hI.mono ?_
    clear hI
    rintro e v ⟨rfl, hbN⟩
    replace hB := hB.below hbN hB.lt
    replace HB := below_step HB hbN
    clear hbN
    generalize hr1 : chkM p ps.l x.l m (i + 1) = r1 at *
    obtain ⟨a1, t1, c1⟩ := r1
    simp only at f1
    have z0 : v.cell? ⟨W.heap.size, 0, none⟩ = some (.int .i64 0) := hB.cell 0
    have z1 : v.frozen? ⟨W.heap.size, 0, none⟩ = false := hB.frozen 0
    refine Exists.elim (⟨_, rfl⟩ : ∃ V, V = v.setCell ⟨W.heap.size, 0, none⟩ (.int .i64 a1)) fun V hV => ?_
    replace hB : Blk V W.heap.size 304 (arr3 a1 0 0) := by rw [hV]; exact hB.set_ 0 _
    replace HB : Below W.heap.size W V := by rw [hV]; exact HB.setCell (Nat.le_refl _) _
    by_cases kc : c1 = 0
    case neg =>
     have HR : Hid (chkM p ps.l x.l (m + 1) i = (0, 0, c1)) := hi_ (by rw [HC2.out]; simp [kc])
     have kc' : (c1 == 0) = false := bf_ kc
     go_wp2
     rw [← hV]
     go_ret3
     exact ⟨ret_ppp (by rw [HR.out]) (by rw [HR.out]; rfl) (by rw [HR.out]), below_step HW.out HB⟩
    subst kc
    obtain ⟨p11, p12, p13, p14⟩ := f1 rfl
    clear f1
    go_wp2
    rw [← hV]
    clear hV z0 z1
    rw [rounds_succ]
    have hq2 := fun w' h => hq w' (below_step HB h)
    have ha : ∀ w', Below V.heap.size V w' → w'.cell? ⟨W.heap.size, 0, none⟩ = some (.int .i64 a1) ∧ w'.cell? ⟨W.heap.size, 1, none⟩ = some (.int .i64 0) ∧ w'.cell? ⟨W.heap.size, 2, none⟩ = some (.int .i64 0) :=
     fun w' h => ⟨below_cell h (hB.cell 0), below_cell h (hB.cell 1), below_cell h (hB.cell 2)⟩
    have HR : Hid (chkM p ps.l x.l (m + 1) i = ((combM ⟨op, n, wd⟩ a1 0 0).1, t1, (combM ⟨op, n, wd⟩ a1 0 0).2)) := hi_ (by rw [HC2.out]; simp)
    have H0 := hi_ (Below.refl V.heap.size V)
    have HV := hi_ HB
    clear HB hq
    go_wp2
    go_region_held3 (fun w' => Below V.heap.size V w') (first | exact H0.out | exact below_drew H0.out | (exact below_step (by assumption) (by assumption)) | assumption)
     (first | (go_at_call 272; refine (combine_any op n wd a1 0 0 _ o1 o2 (by omega) (by omega)).mono ?_; rintro e w1 ⟨rfl, hb1⟩))
    have HB5 : Hid (Below V.heap.size V _) := hi_ (by assumption)
    go_wp2
    go_ret3
    exact ⟨ret_ppp (by rw [HR.out]) (by rw [HR.out]) (by rw [HR.out]), below_step HW.out (below_step HV.out HB5.out)⟩
   ·
    skip
    refine Exists.elim (⟨_, rfl⟩ : ∃ U, U = W.alloc (.cells (arr3 0 0 0) 304)) fun U hU => ?_
    have hB : Blk U W.heap.size 304 (arr3 0 0 0) := by rw [hU]; exact Blk.new _ _ _
    replace HB : Below W.heap.size W U := by rw [hU]; exact below1 _ _
    go_wp2
    rw [← hU]
    clear hU
    refine wp_loop_rounds 3 ?_
    rw [rounds_succ]
    have f1 := chkM_fine p ps.l x.l m (i + 1)
    go_wp2_with fail
    have hI := IH2.out (i + 1) _ (by omega) (by omega) HB
    rw [show ((i + 1 : Nat) : Int) = (i : Int) + 1 by omega] at hI
    refine hI.mono ?_
    clear hI
    rintro e v ⟨rfl, hbN⟩
    replace hB := hB.below hbN hB.lt
    replace HB := below_step HB hbN
    clear hbN
    generalize hr1 : chkM p ps.l x.l m (i + 1) = r1 at *
    obtain ⟨a1, t1, c1⟩ := r1
    simp only at f1
    have z0 : v.cell? ⟨W.heap.size, 0, none⟩ = some (.int .i64 0) := hB.cell 0
    have z1 : v.frozen? ⟨W.heap.size, 0, none⟩ = false := hB.frozen 0
    refine Exists.elim (⟨_, rfl⟩ : ∃ V, V = v.setCell ⟨W.heap.size, 0, none⟩ (.int .i64 a1)) fun V hV => ?_
    replace hB : Blk V W.heap.size 304 (arr3 a1 0 0) := by rw [hV]; exact hB.set_ 0 _
    replace HB : Below W.heap.size W V := by rw [hV]; exact HB.setCell (Nat.le_refl _) _
    by_cases kc : c1 = 0
    case neg =>
     have HR : Hid (chkM p ps.l x.l (m + 1) i = (0, 0, c1)) := hi_ (by rw [HC2.out]; simp [kc])
     have kc' : (c1 == 0) = false := bf_ kc
     go_wp2
     rw [← hV]
     go_ret3
     exact ⟨ret_ppp (by rw [HR.out]) (by rw [HR.out]; rfl) (by rw [HR.out]), below_step HW.out HB⟩
    subst kc
    obtain ⟨p11, p12, p13, p14⟩ := f1 rfl
    clear f1
    go_wp2
    rw [← hV]
    clear hV z0 z1
    rw [rounds_succ]
    have f2 := chkM_fine p ps.l x.l m (t1)
    go_wp2_with fail
    have hI := IH2.out t1 _ (by omega) (by omega) HB
    refine hI.mono ?_
    clear hI
    rintro e v ⟨rfl, hbN⟩
    replace hB := hB.below hbN hB.lt
    replace HB := below_step HB hbN
    clear hbN
    generalize hr2 : chkM p ps.l x.l m (t1) = r2 at *
    obtain ⟨a2, t2, c2⟩ := r2
    simp only at f2
    have z0 : v.cell? ⟨W.heap.size, 1, none⟩ = some (.int .i64 0) := hB.cell 1
    have z1 : v.frozen? ⟨W.heap.size, 1, none⟩ = false := hB.frozen 1
    refine Exists.elim (⟨_, rfl⟩ : ∃ V, V = v.setCell ⟨W.heap.size, 1, none⟩ (.int .i64 a2)) fun V hV => ?_
    replace hB : Blk V W.heap.size 304 (arr3 a1 a2 0) := by rw [hV]; exact hB.set_ 1 _
    replace HB : Below W.heap.size W V := by rw [hV]; exact HB.setCell (Nat.le_refl _) _
    by_cases kc : c2 = 0
    case neg =>
     have HR : Hid (chkM p ps.l x.l (m + 1) i = (0, 0, c2)) := hi_ (by rw [HC2.out]; simp [kc])
     have kc' : (c2 == 0) = false := bf_ kc
     go_wp2
     rw [← hV]
     go_ret3
     exact ⟨ret_ppp (by rw [HR.out]) (by rw [HR.out]; rfl) (by rw [HR.out]), below_step HW.out HB⟩
    subst kc
    obtain ⟨p21, p22, p23, p24⟩ := f2 rfl
    clear f2
    go_wp2
    rw [← hV]
    clear hV z0 z1
    rw [rounds_succ]
    have hq2 := fun w' h => hq w' (below_step HB h)
    have ha : ∀ w', Below V.heap.size V w' → w'.cell? ⟨W.heap.size, 0, none⟩ = some (.int .i64 a1) ∧ w'.cell? ⟨W.heap.size, 1, none⟩ = some (.int .i64 a2) ∧ w'.cell? ⟨W.heap.size, 2, none⟩ = some (.int .i64 0) :=
     fun w' h => ⟨below_cell h (hB.cell 0), below_cell h (hB.cell 1), below_cell h (hB.cell 2)⟩
    have HR : Hid (chkM p ps.l x.l (m + 1) i = ((combM ⟨op, n, wd⟩ a1 a2 0).1, t2, (combM ⟨op, n, wd⟩ a1 a2 0).2)) := hi_ (by rw [HC2.out]; simp)
    have H0 := hi_ (Below.refl V.heap.size V)
    have HV := hi_ HB
    clear HB hq
    go_wp2
    go_region_held3 (fun w' => Below V.heap.size V w') (first | exact H0.out | exact below_drew H0.out | (exact below_step (by assumption) (by assumption)) | assumption)
     (first | (go_at_call 272; refine (combine_any op n wd a1 a2 0 _ o1 o2 (by omega) (by omega)).mono ?_; rintro e w1 ⟨rfl, hb1⟩))
    have HB5 : Hid (Below V.heap.size V _) := hi_ (by assumption)
    go_wp2
    go_ret3
    exact ⟨ret_ppp (by rw [HR.out]) (by rw [HR.out]) (by rw [HR.out]), below_step HW.out (below_step HV.out HB5.out)⟩
   ·
    skip
    refine Exists.elim (⟨_, rfl⟩ : ∃ U, U = W.alloc (.cells (arr3 0 0 0) 304)) fun U hU => ?_
    have hB : Blk U W.heap.size 304 (arr3 0 0 0) := by rw [hU]; exact Blk.new _ _ _
    replace HB : Below W.heap.size W U := by rw [hU]; exact below1 _ _
    go_wp2
    rw [← hU]
    clear hU
    refine wp_loop_rounds 4 ?_
    rw [rounds_succ]
    have f1 := chkM_fine p ps.l x.l m (i + 1)
    go_wp2_with fail
    have hI := IH2.out (i + 1) _ (by omega) (by omega) HB
    rw [show ((i + 1 : Nat) : Int) = (i : Int) + 1 by omega] at hI
    refine hI.mono ?_
    clear hI
    rintro e v ⟨rfl, hbN⟩
    replace hB := hB.below hbN hB.lt
    replace HB := below_step HB hbN
    clear hbN
    generalize hr1 : chkM p ps.l x.l m (i + 1) = r1 at *
    obtain ⟨a1, t1, c1⟩ := r1
    simp only at f1
    have z0 : v.cell? ⟨W.heap.size, 0, none⟩ = some (.int .i64 0) := hB.cell 0
    have z1 : v.frozen? ⟨W.heap.size, 0, none⟩ = false := hB.frozen 0
    refine Exists.elim (⟨_, rfl⟩ : ∃ V, V = v.setCell ⟨W.heap.size, 0, none⟩ (.int .i64 a1)) fun V hV => ?_
    replace hB : Blk V W.heap.size 304 (arr3 a1 0 0) := by rw [hV]; exact hB.set_ 0 _
    replace HB : Below W.heap.size W V := by rw [hV]; exact HB.setCell (Nat.le_refl _) _
    by_cases kc : c1 = 0
    case neg =>
     have HR : Hid (chkM p ps.l x.l (m + 1) i = (0, 0, c1)) := hi_ (by rw [HC2.out]; simp [kc])
     have kc' : (c1 == 0) = false := bf_ kc
     go_wp2
     rw [← hV]
     go_ret3
     exact ⟨ret_ppp (by rw [HR.out]) (by rw [HR.out]; rfl) (by rw [HR.out]), below_step HW.out HB⟩
    subst kc
    obtain ⟨p11, p12, p13, p14⟩ := f1 rfl
    clear f1
    go_wp2
    rw [← hV]
    clear hV z0 z1
    rw [rounds_succ]
    have f2 := chkM_fine p ps.l x.l m (t1)
    go_wp2_with fail
    have hI := IH2.out t1 _ (by omega) (by omega) HB
    refine hI.mono ?_
    clear hI
    rintro e v ⟨rfl, hbN⟩
    replace hB := hB.below hbN hB.lt
    replace HB := below_step HB hbN
    clear hbN
    generalize hr2 : chkM p ps.l x.l m (t1) = r2 at *
    obtain ⟨a2, t2, c2⟩ := r2
    simp only at f2
    have z0 : v.cell? ⟨W.heap.size, 1, none⟩ = some (.int .i64 0) := hB.cell 1
    have z1 : v.frozen? ⟨W.heap.size, 1, none⟩ = false := hB.frozen 1
    refine Exists.elim (⟨_, rfl⟩ : ∃ V, V = v.setCell ⟨W.heap.size, 1, none⟩ (.int .i64 a2)) fun V hV => ?_
    replace hB : Blk V W.heap.size 304 (arr3 a1 a2 0) := by rw [hV]; exact hB.set_ 1 _
    replace HB : Below W.heap.size W V := by rw [hV]; exact HB.setCell (Nat.le_refl _) _
    by_cases kc : c2 = 0
    case neg =>
     have HR : Hid (chkM p ps.l x.l (m + 1) i = (0, 0, c2)) := hi_ (by rw [HC2.out]; simp [kc])
     have kc' : (c2 == 0) = false := bf_ kc
     go_wp2
     rw [← hV]
     go_ret3
     exact ⟨ret_ppp (by rw [HR.out]) (by rw [HR.out]; rfl) (by rw [HR.out]), below_step HW.out HB⟩
    subst kc
    obtain ⟨p21, p22, p23, p24⟩ := f2 rfl
    clear f2
    go_wp2
    rw [← hV]
    clear hV z0 z1
    rw [rounds_succ]
    have f3 := chkM_fine p ps.l x.l m (t2)
    go_wp2_with fail
    have hI := IH2.out t2 _ (by omega) (by omega) HB
    refine hI.mono ?_
    clear hI
    rintro e v ⟨rfl, hbN⟩
    replace hB := hB.below hbN hB.lt
    replace HB := below_step HB hbN
    clear hbN
    generalize hr3 : chkM p ps.l x.l m (t2) = r3 at *
    obtain ⟨a3, t3, c3⟩ := r3
    simp only at f3
    have z0 : v.cell? ⟨W.heap.size, 2, none⟩ = some (.int .i64 0) := hB.cell 2
    have z1 : v.frozen? ⟨W.heap.size, 2, none⟩ = false := hB.frozen 2
    refine Exists.elim (⟨_, rfl⟩ : ∃ V, V = v.setCell ⟨W.heap.size, 2, none⟩ (.int .i64 a3)) fun V hV => ?_
    replace hB : Blk V W.heap.size 304 (arr3 a1 a2 a3) := by rw [hV]; exact hB.set_ 2 _
    replace HB : Below W.heap.size W V := by rw [hV]; exact HB.setCell (Nat.le_refl _) _
    by_cases kc : c3 = 0
    case neg =>
     have HR : Hid (chkM p ps.l x.l (m + 1) i = (0, 0, c3)) := hi_ (by rw [HC2.out]; simp [kc])
     have kc' : (c3 == 0) = false := bf_ kc
     go_wp2
     rw [← hV]
     go_ret3
     exact ⟨ret_ppp (by rw [HR.out]) (by rw [HR.out]; rfl) (by rw [HR.out]), below_step HW.out HB⟩
    subst kc
    obtain ⟨p31, p32, p33, p34⟩ := f3 rfl
    clear f3
    go_wp2
    rw [← hV]
    clear hV z0 z1
    rw [rounds_succ]
    have hq2 := fun w' h => hq w' (below_step HB h)
    have ha : ∀ w', Below V.heap.size V w' → w'.cell? ⟨W.heap.size, 0, none⟩ = some (.int .i64 a1) ∧ w'.cell? ⟨W.heap.size, 1, none⟩ = some (.int .i64 a2) ∧ w'.cell? ⟨W.heap.size, 2, none⟩ = some (.int .i64 a3) :=
     fun w' h => ⟨below_cell h (hB.cell 0), below_cell h (hB.cell 1), below_cell h (hB.cell 2)⟩
    have HR : Hid (chkM p ps.l x.l (m + 1) i = ((combM ⟨op, n, wd⟩ a1 a2 a3).1, t3, (combM ⟨op, n, wd⟩ a1 a2 a3).2)) := hi_ (by rw [HC2.out]; simp)
    have H0 := hi_ (Below.refl V.heap.size V)
    have HV := hi_ HB
    clear HB hq
    go_wp2
    go_region_held3 (fun w' => Below V.heap.size V w') (first | exact H0.out | exact below_drew H0.out | (exact below_step (by assumption) (by assumption)) | assumption)
     (first | (go_at_call 272; refine (combine_any op n wd a1 a2 a3 _ o1 o2 (by omega) (by omega)).mono ?_; rintro e w1 ⟨rfl, hb1⟩))
    have HB5 : Hid (Below V.heap.size V _) := hi_ (by assumption)
    go_wp2
    go_ret3
    exact ⟨ret_ppp (by rw [HR.out]) (by rw [HR.out]) (by rw [HR.out]), below_step HW.out (below_step HV.out HB5.out)⟩
theorem exprCheck_any (p : ProgD) (ps : L FieldD) (x : L NodeD) (w : World) (o : ProgOk w p) (hps : LOk w 2 FieldD.cells ps) (hx : LOk w 3 NodeD.cells x) :
  Calls Tryz.prog 217 #[.slice x.A x.l.length x.c, .agg (scopeCells p ps)] w fun e w' => e = .returned (.tuple #[.int .i64 (exprM p ps.l x.l).1, .int .i64 (exprM p ps.l x.l).2]) ∧ Below w.heap.size w w' := by
 have HO := hi_ o
 have HP := hi_ hps
 have HX := hi_ hx
 have hm := hx.1
 clear o hps hx
 obtain ⟨W, hW, hw, HB, hp⟩ := box1 w (scopeCells p ps) 217
 have HW := hi_ hw
 clear hw
 by_cases h1 : 24 < x.l.length
 ·
  have HR := hi_ (show exprM p ps.l x.l = (0, 12) by rw [exprM, if_pos h1])
  go_enter Tryz.func217, Tryz.ntmps217
  go_wp2
  go_ret2
  exact ⟨ret_pp HR.out, below1 _ _⟩
 have HR := hi_ (show exprM p ps.l x.l = _ by rw [exprM, if_neg h1])
 have hf := chkM_fine p ps.l x.l (x.l.length + 1) 0
 have hle : x.l.length ≤ 24 := by omega
 go_enter Tryz.func217, Tryz.ntmps217
 go_upto_region 1 with fail
 rw [← hW]
 clear hW
 go_wp2_with fail
 refine (chk_any p ps x hle (x.l.length + 1) 0 _ (by omega) (by omega) (HO.out.below (below_step HW.out (by first | exact HB | exact ba1 HB | exact ba2 HB | exact ba3 HB))) (HP.out.below (below_step HW.out (by first | exact HB | exact ba1 HB | exact ba2 HB | exact ba3 HB)) (Nat.le_refl _)) (HX.out.below (below_step HW.out (by first | exact HB | exact ba1 HB | exact ba2 HB | exact ba3 HB)) (Nat.le_refl _))).mono ?_
 rintro e w1 ⟨rfl, hbN⟩
 replace HB := below_step (by first | exact HB | exact ba1 HB | exact ba2 HB | exact ba3 HB) hbN
 clear hbN
 generalize chkM p ps.l x.l (x.l.length + 1) 0 = r at *
 obtain ⟨a, t, c⟩ := r
 simp only at HR hf
 by_cases k1 : c = 0
 ·
  subst k1
  obtain ⟨_, f2, _⟩ := hf rfl
  by_cases k2 : t < x.l.length
  ·
   replace HR : Hid (exprM p ps.l x.l = (0, 4)) := hi_ (by rw [HR.out]; simp [k2])
   go_wp2
   go_ret2
   exact ⟨ret_pp HR.out, below_step HW.out HB⟩
  ·
   replace HR : Hid (exprM p ps.l x.l = (a, 0)) := hi_ (by rw [HR.out]; simp [k2])
   go_wp2
   go_ret2
   exact ⟨ret_pp HR.out, below_step HW.out HB⟩
 ·
  have k1' : (c == 0) = false := bf_ k1
  replace HR : Hid (exprM p ps.l x.l = (0, c)) := hi_ (by rw [HR.out]; simp [k1])
  go_wp2
  go_ret2
  exact ⟨ret_pp HR.out, below_step HW.out HB⟩
def hexs : List UInt8 := [48, 49, 50, 51, 52, 53, 54, 55, 56, 57, 97, 98, 99, 100, 101, 102]
def dgt (base : Nat) (c : UInt8) : Option Nat :=
 if 48 ≤ c ∧ c ≤ 57 then some (c.toNat - 48) else if base = 16 ∧ 97 ≤ c ∧ c ≤ 102 then some (c.toNat - 87) else none
theorem dgt_ten (c : UInt8) : Lib.indexByte (hexs.take 10) c = (match dgt 10 c with | some d => (d : Int) | none => -1) := by
 have h : ∀ x : Fin 256, Lib.indexByte (hexs.take 10) (UInt8.ofNat x) = (match dgt 10 (UInt8.ofNat x) with | some d => (d : Int) | none => -1) := by decide +kernel
 have := h ⟨c.toNat, c.toNat_lt⟩
 simpa using this
theorem dgt_hex (c : UInt8) : Lib.indexByte (hexs.take 16) c = (match dgt 16 c with | some d => (d : Int) | none => -1) := by
 have h : ∀ x : Fin 256, Lib.indexByte (hexs.take 16) (UInt8.ofNat x) = (match dgt 16 (UInt8.ofNat x) with | some d => (d : Int) | none => -1) := by decide +kernel
 have := h ⟨c.toNat, c.toNat_lt⟩
 simpa using this
theorem done_any (b at_ : Nat) (s : ByteArray) (w : World) (h0 : w.cell? ⟨b, 0, none⟩ = some (.string s)) (h1 : w.cell? ⟨b, 1, none⟩ = some (.int .i64 at_)) :
  Calls Tryz.prog 267 #[.pointer (some ⟨b, 0, none⟩)] w fun e w' => e = .returned (.bool ((at_ : Int) == (s.size : Int))) ∧ ∃ n, w' = w.drewN n := by
 go_enter Tryz.func267, Tryz.ntmps267
 go_wp2
 go_quiet (fail)
 go_wp2
 go_ret
 exact ⟨rfl, _, rfl⟩
theorem accept_any (b : Nat) (s p : ByteArray) (w : World) (x : Bool) (h0 : w.cell? ⟨b, 0, none⟩ = some (.string s)) (h1 : w.cell? ⟨b, 1, none⟩ = some (.int .i64 0))
  (hf : w.frozen? ⟨b, 1, none⟩ = false) (hm : p.size ≤ 1048576) (hp : Lib.hasPrefix s.data.toList p.data.toList = x) :
  Calls Tryz.prog 242 #[.pointer (some ⟨b, 0, none⟩), .string p] w
   fun e w' => e = .returned (.bool x) ∧ ∃ n, w' = (if x then w.setCell ⟨b, 1, none⟩ (.int .i64 p.size) else w).drewN n := by
 have he : s.extract 0 s.size = s := by simp
 cases x
 all_goals
  go_enter Tryz.func242, Tryz.ntmps242
  go_wp2
  go_quiet ((go_at_call 265; exact Calls.quiet_of_same (Tryz.strings_HasPrefix _ _ _)))
  go_wp2
  go_ret
  exact ⟨rfl, _, rfl⟩
theorem idx_eq {base : Nat} {c : UInt8} {d : Int} (h : Lib.indexByte (hexs.take base) c = d) :
  Lib.indexByte ((⟨#[48, 49, 50, 51, 52, 53, 54, 55, 56, 57, 97, 98, 99, 100, 101, 102]⟩ : ByteArray).extract 0 base).data.toList ((c.toNat : Int).toNat.toUInt8) = d := by
 rw [← h]; simp [hexs, ByteArray.data_extract]
theorem digit_some (base d b at_ : Nat) (s : ByteArray) (w : World) (h0 : w.cell? ⟨b, 0, none⟩ = some (.string s)) (h1 : w.cell? ⟨b, 1, none⟩ = some (.int .i64 at_))
  (hf : w.frozen? ⟨b, 1, none⟩ = false) (hs : at_ < s.size) (hm : s.size ≤ 1048576) (hb : base = 10 ∨ base = 16) (hd : dgt base s[at_] = some d) :
  Calls Tryz.prog 266 #[.pointer (some ⟨b, 0, none⟩), .int .i64 base] w
   fun e w' => e = .returned (.tuple #[.int .i64 d, .bool true]) ∧ ∃ n, w' = (w.setCell ⟨b, 1, none⟩ (.int .i64 ((at_ + 1 : Nat) : Int))).drewN n := by
 have hx : Lib.indexByte (hexs.take base) s[at_] = (d : Int) := by
  rcases hb with rfl | rfl
  · rw [dgt_ten, hd]
  · rw [dgt_hex, hd]
 have HX := hi_ hx
 have HD := hi_ hd
 clear hx hd
 have hb1 : base ≤ 16 := by omega
 clear hb
 have ht : ((at_ : Int) == (s.size : Int)) = false := bf_ (by omega)
 go_enter Tryz.func266, Tryz.ntmps266
 go_wp2_with (go_at_call 267; refine (done_any _ _ _ _ h0 h1).mono ?_; rintro e w' ⟨rfl, n1, rfl⟩)
 go_quiet ((go_at_call 250; exact quiet_add_same (Tryz.strings_IndexByte _ _ _)))
 go_wp2
 ·
  have h : Lib.indexByte (List.take base [48, 49, 50, 51, 52, 53, 54, 55, 56, 57, 97, 98, 99, 100, 101, 102]) s[at_] < 0 := by assumption
  rw [show Lib.indexByte (List.take base [48, 49, 50, 51, 52, 53, 54, 55, 56, 57, 97, 98, 99, 100, 101, 102]) s[at_] = (d : Int) from HX.out] at h
  omega
 ·
  go_ret2
  refine ⟨?_, _, rfl⟩
  simp only [Ending.returned.injEq, Value.tuple.injEq]
  show #[Value.int .i64 _, Value.bool true] = _
  rw [idx_eq HX.out]
theorem digit_none (base b at_ : Nat) (s : ByteArray) (w : World) (h0 : w.cell? ⟨b, 0, none⟩ = some (.string s)) (h1 : w.cell? ⟨b, 1, none⟩ = some (.int .i64 at_))
  (hs : at_ < s.size) (_hm : s.size ≤ 1048576) (hb : base = 10 ∨ base = 16) (hd : dgt base s[at_] = none) :
  Calls Tryz.prog 266 #[.pointer (some ⟨b, 0, none⟩), .int .i64 base] w
   fun e w' => e = .returned (.tuple #[.int .i64 0, .bool false]) ∧ ∃ n, w' = w.drewN n := by
 have hx : Lib.indexByte (hexs.take base) s[at_] = -1 := by
  rcases hb with rfl | rfl
  · rw [dgt_ten, hd]
  · rw [dgt_hex, hd]
 have HX := hi_ hx
 have HD := hi_ hd
 clear hx hd
 have hb1 : base ≤ 16 := by omega
 clear hb
 have ht : ((at_ : Int) == (s.size : Int)) = false := bf_ (by omega)
 go_enter Tryz.func266, Tryz.ntmps266
 go_wp2_with (go_at_call 267; refine (done_any _ _ _ _ h0 h1).mono ?_; rintro e w' ⟨rfl, n1, rfl⟩)
 go_quiet ((go_at_call 250; exact quiet_add_same (Tryz.strings_IndexByte _ _ _)))
 have hlt : Lib.indexByte (List.take base [48, 49, 50, 51, 52, 53, 54, 55, 56, 57, 97, 98, 99, 100, 101, 102]) s[at_] < 0 := by
  rw [show Lib.indexByte (List.take base [48, 49, 50, 51, 52, 53, 54, 55, 56, 57, 97, 98, 99, 100, 101, 102]) s[at_] = -1 from HX.out]; decide
 go_wp2
 go_ret2
 exact ⟨rfl, _, rfl⟩
def canon : List UInt8 → Bool
 | [] => false
 | [_] => true
 | c :: _ => c != 48
theorem list_two {l : List UInt8} (h : 2 ≤ l.length) : ∃ a b r, l = a :: b :: r := by
 match l, h with
 | a :: b :: r, _ => exact ⟨a, b, r, rfl⟩
theorem canonical_any (s : ByteArray) (w : World) (hs : s.size ≤ maxLen) :
  Calls Tryz.prog 243 #[.string s] w fun e w' => e = .returned (.bool (canon s.data.toList)) ∧ w = w' := by
 unfold maxLen at hs
 rcases Nat.lt_trichotomy s.size 1 with h | h | h
 ·
  have he : s.toList = [] := by rw [toList_data]; exact List.eq_nil_of_length_eq_zero (show s.size = 0 by omega)
  have h1 : ((s.size : Int) == 1) = false := bf_ (by omega)
  go_enter Tryz.func243, Tryz.ntmps243
  go_wp2
  go_ret
  exact ⟨ret_bool (by rw [← toList_data, he]; rfl), rfl⟩
 ·
  have h1 : ((s.size : Int) == 1) = true := beq_iff_eq.2 (by omega)
  go_enter Tryz.func243, Tryz.ntmps243
  go_wp2
  go_ret
  refine ⟨ret_bool ?_, rfl⟩
  have hl : s.data.toList.length = 1 := h
  obtain ⟨a, ha⟩ := List.length_eq_one_iff.1 hl
  rw [ha]; rfl
 ·
  have he : s.toList.isEmpty = false := by
   rw [toList_data, List.isEmpty_eq_false_iff]
   intro e
   have : s.data.toList.length = s.size := rfl
   rw [e] at this; simp at this; omega
  have h1 : ((s.size : Int) == 1) = false := bf_ (by omega)
  have h2 : 0 < s.size := by omega
  go_enter Tryz.func243, Tryz.ntmps243
  go_wp2
  go_ret
  refine ⟨ret_bool ?_, rfl⟩
  obtain ⟨a, c, r, hl⟩ := list_two (l := s.data.toList) h
  have e0 : s[0] = a := by
   have : s.data.toList[0]? = some a := by rw [hl]; rfl
   rw [Lib.data_getElem? s 0 h2] at this
   exact Option.some.inj this
  rw [e0, hl]
  show ((a.toNat : Int) != 48) = (a != 48)
  rw [Bool.eq_iff_iff, bne_iff_ne, bne_iff_ne]
  have e : a = 48 ↔ a.toNat = 48 := by rw [← UInt8.toNat_inj]; rfl
  rw [Ne, Ne, e]
  omega
def horner (base : Nat) : Nat → List UInt8 → Option Nat
 | acc, [] => some acc
 | acc, c :: l => match dgt base c with
  | none => none
  | some d => if 4294967295 < acc * base + d then none else horner base (acc * base + d) l
theorem dgt_lt {base : Nat} {c : UInt8} {d : Nat} (h : dgt base c = some d) : d < 16 := by
 unfold dgt at h
 split at h
 ·
  rename_i hc
  injection h with h
  have := hc.2
  rw [UInt8.le_iff_toNat_le] at this
  have e : (57 : UInt8).toNat = 57 := rfl
  omega
 ·
  split at h
  ·
   rename_i hc
   injection h with h
   have := hc.2.2
   rw [UInt8.le_iff_toNat_le] at this
   have e : (102 : UInt8).toNat = 102 := rfl
   omega
  · cases h
def valEnd (base : Nat) (s : ByteArray) (at_ : Nat) : Value :=
 match horner base 0 (s.data.toList.drop at_) with
 | none => .tuple #[.int .u64 0, .int .i64 0, .bool false]
 | some v => .tuple #[.int .u64 v, .int .i64 ((s.size - at_ : Nat) : Int), .bool (decide (at_ < s.size))]
theorem drop_cons (s : ByteArray) (k : Nat) (h : k < s.size) : s.data.toList.drop k = s[k] :: s.data.toList.drop (k + 1) := by
 rw [List.drop_eq_getElem_cons (by exact h)]; rfl
theorem value_any (base b at_ : Nat) (s : ByteArray) (w : World) (hB : Blk w b 277 #[.string s, .int .i64 at_, .int .i64 base]) (hs : at_ ≤ s.size) (hm : s.size ≤ 1048576)
  (hb : base = 10 ∨ base = 16) :
  Calls Tryz.prog 244 #[.pointer (some ⟨b, 0, none⟩), .int .u64 4294967295] w
   fun e w' => e = .returned (valEnd base s at_) ∧ Below b w w' := by
 have HB := hi_ hb
 have hbl : base ≤ 16 := by omega
 clear hb
 go_enter Tryz.func244, Tryz.ntmps244
 go_wp2
 go_loopw [4, 5, 6, 8, 9] (fun v d o x y wr => ∃ k n : Nat, at_ ≤ k ∧ k ≤ s.size ∧ n ≤ 4294967295 ∧ v = .int .u64 n ∧ d = .int .i64 ((k - at_ : Nat) : Int) ∧ o = .bool false ∧
   Hid (horner base 0 (s.data.toList.drop at_) = horner base n (s.data.toList.drop k)) ∧ Blk wr b 277 #[.string s, .int .i64 k, .int .i64 base] ∧ Below b w wr)
  (fun _ d _ _ _ _ => s.size - (intOf d).toNat)
 case atStart => exact ⟨at_, 0, Nat.le_refl _, hs, by omega, rfl, by simp, rfl, hi_ rfl, hB, Below.refl _ _⟩
 case round =>
  obtain ⟨k, n, hk1, hk2, hn, rfl, rfl, rfl, HH, hBr, hbel⟩ := hrel
  have h0 : wr.cell? ⟨b, 0, none⟩ = some (.string s) := hBr.cell 0
  have h1 : wr.cell? ⟨b, 1, none⟩ = some (.int .i64 k) := hBr.cell 1
  have h2 : wr.cell? ⟨b, 2, none⟩ = some (.int .i64 base) := hBr.cell 2
  have hf : wr.frozen? ⟨b, 1, none⟩ = false := hBr.frozen 1
  by_cases hlt : k < s.size
  ·
   have ht : ((k : Int) == (s.size : Int)) = false := bf_ (by omega)
   rcases hd : dgt base s[k] with _ | d
   ·
    have HD := hi_ hd
    clear hd
    go_wp2_with fail
    refine (done_any _ _ _ _ h0 h1).mono ?_
    rintro e w' ⟨rfl, n1, rfl⟩
    go_wp2_with fail
    refine (digit_none base b k s (wr.drewN n1) h0 h1 hlt hm HB.out HD.out).mono ?_
    rintro e w' ⟨rfl, n2, rfl⟩
    go_wp2
    go_ret3
    refine ⟨?_, (by repeat (first | exact hbel | refine below_drewN ?_ _ | refine Below.setCell (p := ⟨b, 1, none⟩) ?_ (Nat.le_refl b) _))⟩
    have e : horner base 0 (s.data.toList.drop at_) = none := by
     rw [HH.out, drop_cons s k hlt, horner, HD.out]
    rw [valEnd, e]; rfl
   ·
    have HD := hi_ hd
    have hd16 := dgt_lt hd
    clear hd
    have hmul : n * base ≤ 4294967295 * 16 := Nat.mul_le_mul hn hbl
    have hc1 : ((n : Int) * (base : Int)) = ((n * base : Nat) : Int) := by simp
    have HC := hi_ hc1
    have hA0 : 0 ≤ (n : Int) * (base : Int) := by omega
    have hA1 : (n : Int) * (base : Int) ≤ 68719476720 := by omega
    clear hc1
    by_cases hov : 4294967295 < n * base + d
    ·
     have hov' : (4294967295 : Int) < (n : Int) * (base : Int) + (d : Int) := by have := HC.out; omega
     go_wp2_with fail
     refine (done_any _ _ _ _ h0 h1).mono ?_
     rintro e w' ⟨rfl, n1, rfl⟩
     go_wp2_with fail
     refine (digit_some base d b k s (wr.drewN n1) h0 h1 hf hlt hm HB.out HD.out).mono ?_
     rintro e w' ⟨rfl, n2, rfl⟩
     go_wp2
     go_ret3
     refine ⟨?_, ?_⟩
     ·
      have e : horner base 0 (s.data.toList.drop at_) = none := by
       rw [HH.out, drop_cons s k hlt, horner, HD.out]
       simp only [hov, if_true]
      rw [valEnd, e]; rfl
     · exact (by repeat (first | exact hbel | refine below_drewN ?_ _ | refine Below.setCell (p := ⟨b, 1, none⟩) ?_ (Nat.le_refl b) _))
    ·
     have hov' : ¬ (4294967295 : Int) < (n : Int) * (base : Int) + (d : Int) := by have := HC.out; omega
     go_wp2_with fail
     refine (done_any _ _ _ _ h0 h1).mono ?_
     rintro e w' ⟨rfl, n1, rfl⟩
     go_wp2_with fail
     refine (digit_some base d b k s (wr.drewN n1) h0 h1 hf hlt hm HB.out HD.out).mono ?_
     rintro e w' ⟨rfl, n2, rfl⟩
     go_wp2
     go_roundw
     case rel =>
      refine ⟨k + 1, n * base + d, by omega, by omega, by omega, ?_, ?_, rfl, ?_, ?_, ?_⟩
      ·
       have := HC.out
       rw [Int.natCast_add, ← HC.out]
      · rw [show ((k + 1 - at_ : Nat) : Int) = ((k - at_ : Nat) : Int) + 1 from by omega]
      ·
       refine hi_ ?_
       rw [HH.out, drop_cons s k hlt, horner, HD.out]
       simp only [hov, if_false]
      · exact (((hBr.drewN n1).set_ 1 _).drewN n2)
      · exact (by repeat (first | exact hbel | refine below_drewN ?_ _ | refine Below.setCell (p := ⟨b, 1, none⟩) ?_ (Nat.le_refl b) _))
     case measure => simp [intOf]; omega
  ·
   have hks : k = s.size := by omega
   have HK := hi_ hks
   have h1' : wr.cell? ⟨b, 1, none⟩ = some (.int .i64 s.size) := by rw [h1, HK.out]
   have ht : ((k : Int) == (s.size : Int)) = true := beq_iff_eq.2 (by omega)
   clear hks h1'
   go_wp2_with fail
   refine (done_any _ _ _ _ h0 h1).mono ?_
   rintro e w' ⟨rfl, n1, rfl⟩
   go_wp2
   go_ret3
   refine ⟨?_, (by repeat (first | exact hbel | refine below_drewN ?_ _ | refine Below.setCell (p := ⟨b, 1, none⟩) ?_ (Nat.le_refl b) _))⟩
   have e : horner base 0 (s.data.toList.drop at_) = some n := by
    rw [HH.out, List.drop_of_length_le (by have := HK.out; show s.size ≤ k; omega)]; rfl
   have hk' := HK.out
   rw [valEnd, e]
   show Ending.returned (.tuple #[.int .u64 _, .int .i64 _, .bool _]) = .returned (.tuple #[.int .u64 _, .int .i64 _, .bool _])
   have e2 : decide (0 < k - at_) = decide (at_ < s.size) := by
    rw [Bool.eq_iff_iff, decide_eq_true_iff, decide_eq_true_iff]; omega
   rw [e2, hk']
def pu32 (l : List UInt8) : Option Nat :=
 if Lib.hasPrefix l [48, 120] = true then
  (if 10 < l.length ∨ l.length ≤ 2 then none else horner 16 0 (l.drop 2))
 else if canon l = true then horner 10 0 l else none
def pu32v (l : List UInt8) : Value := match pu32 l with
 | none => .tuple #[.int .u32 0, .bool false]
 | some v => .tuple #[.int .u32 v, .bool true]
theorem decimal_any (s : ByteArray) (w : World) :
  Calls Tryz.prog 241 #[.string s] w
   fun e w' => e = .returned (.pointer (some ⟨w.heap.size, 0, none⟩)) ∧ w' = w.alloc (.cells #[.string s, .int .i64 0, .int .i64 10] 277) := by
 go_enter Tryz.func241, Tryz.ntmps241
 go_wp2
 go_ret
 exact ⟨rfl, rfl⟩
theorem horner_le (base : Nat) : ∀ (l : List UInt8) (acc v : Nat), acc ≤ 4294967295 → horner base acc l = some v → v ≤ 4294967295
 | [], acc, v, h, e => by rw [horner] at e; injection e with e; omega
 | c :: l, acc, v, h, e => by
  rw [horner] at e
  rcases hd : dgt base c with _ | d
  · rw [hd] at e; cases e
  ·
   rw [hd] at e
   simp only at e
   split at e
   · cases e
   · exact horner_le base l _ v (by omega) e
theorem prefix_len {l : List UInt8} {a b : UInt8} (h : Lib.hasPrefix l [a, b] = true) : 2 ≤ l.length := by
 unfold Lib.hasPrefix at h
 have := (List.isPrefixOf_iff_prefix.1 h).length_le
 simpa using this
theorem parseUint32_any (s : ByteArray) (w : World) (hm : s.size ≤ 1048576) :
  Calls Tryz.prog 196 #[.string s] w fun e w' => e = .returned (pu32v s.data.toList) ∧ Below w.heap.size w w' := by
 have hB0 := Blk.new w 277 #[.string s, .int .i64 0, .int .i64 10]
 have hbel : Below w.heap.size w (w.alloc (.cells #[.string s, .int .i64 0, .int .i64 10] 277)) := (Below.refl _ _).alloc (Nat.le_refl _) _
 have BEL := hi_ hbel
 clear hbel
 rcases hp : Lib.hasPrefix s.data.toList [48, 120] with _ | _
 ·
  have HP := hi_ hp
  clear hp
  rcases hc : canon s.data.toList with _ | _
  ·
   have HC := hi_ hc
   clear hc
   go_enter Tryz.func196, Tryz.ntmps196
   go_wp2_with fail
   refine (decimal_any _ _).mono ?_
   rintro e w' ⟨rfl, rfl⟩
   go_wp2_with fail
   refine (accept_any w.heap.size s _ _ false (hB0.cell 0) (hB0.cell 1) (hB0.frozen 1) (by decide) HP.out).mono ?_
   rintro e w' ⟨rfl, n1, rfl⟩
   go_wp2_with fail
   refine (canonical_any s _ (by unfold maxLen; omega)).mono ?_
   rintro e w' ⟨rfl, rfl⟩
   have hc := HC.out
   go_wp2
   go_ret2
   exact ⟨by rw [pu32v, pu32, if_neg (by rw [HP.out]; decide), if_neg (by rw [HC.out]; decide)]; rfl, below_drewN BEL.out _⟩
  ·
   have HC := hi_ hc
   clear hc
   go_enter Tryz.func196, Tryz.ntmps196
   go_wp2_with fail
   refine (decimal_any _ _).mono ?_
   rintro e w' ⟨rfl, rfl⟩
   go_wp2_with fail
   refine (accept_any w.heap.size s _ _ false (hB0.cell 0) (hB0.cell 1) (hB0.frozen 1) (by decide) HP.out).mono ?_
   rintro e w' ⟨rfl, n1, rfl⟩
   go_wp2_with fail
   refine (canonical_any s _ (by unfold maxLen; omega)).mono ?_
   rintro e w' ⟨rfl, rfl⟩
   have hc := HC.out
   go_wp2_with fail
   refine (value_any 10 w.heap.size 0 s ((w.alloc (.cells #[.string s, .int .i64 0, .int .i64 10] 277)).drewN n1) (hB0.drewN n1) (Nat.zero_le _) hm (.inl rfl)).mono ?_
   rintro e w' ⟨rfl, hb2⟩
   clear hc
   have hpos : 0 < s.size := by
    rcases Nat.eq_zero_or_pos s.size with h | h
    ·
     have h' : s.data.toList = [] := List.eq_nil_of_length_eq_zero h
     have := HC.out
     rw [h'] at this; cases this
    · exact h
   have hd : decide (0 < s.size) = true := by simpa using hpos
   rcases hv : horner 10 0 s.data.toList with _ | v
   ·
    have HV := hi_ hv
    clear hv
    have he : valEnd 10 s 0 = .tuple #[.int .u64 0, .int .i64 0, .bool false] := by rw [valEnd, List.drop_zero, HV.out]
    rw [he]
    clear he
    go_wp2
    go_ret2
    exact ⟨by rw [pu32v, pu32, if_neg (by rw [HP.out]; decide), if_pos HC.out, HV.out]; rfl, (below_drewN BEL.out n1).trans hb2⟩
   ·
    have hvl := horner_le 10 _ 0 v (by omega) hv
    have HV := hi_ hv
    clear hv
    have he : valEnd 10 s 0 = .tuple #[.int .u64 v, .int .i64 s.size, .bool true] := by rw [valEnd, List.drop_zero, HV.out]; simp only [hd]; rfl
    rw [he]
    clear he hd
    go_wp2
    go_ret2
    exact ⟨by rw [pu32v, pu32, if_neg (by rw [HP.out]; decide), if_pos HC.out, HV.out]; rfl, (below_drewN BEL.out n1).trans hb2⟩
 ·
  have hlen : 2 ≤ s.size := prefix_len hp
  have HP := hi_ hp
  clear hp
  by_cases hgt : 10 < s.size
  ·
   go_enter Tryz.func196, Tryz.ntmps196
   go_wp2_with fail
   refine (decimal_any _ _).mono ?_
   rintro e w' ⟨rfl, rfl⟩
   go_wp2_with fail
   refine (accept_any w.heap.size s _ _ true (hB0.cell 0) (hB0.cell 1) (hB0.frozen 1) (by decide) HP.out).mono ?_
   rintro e w' ⟨rfl, n1, rfl⟩
   go_wp2_with fail
   go_ret2
   exact ⟨by rw [pu32v, pu32, if_pos HP.out, if_pos (Or.inl (show 10 < s.data.toList.length from hgt))]; rfl, (Below.setCell (p := ⟨w.heap.size, 2, none⟩) (below_drewN ((Below.refl _ _).alloc (Nat.le_refl _) _) n1) (Nat.le_refl _) _)⟩
  ·
   go_enter Tryz.func196, Tryz.ntmps196
   go_wp2_with fail
   refine (decimal_any _ _).mono ?_
   rintro e w' ⟨rfl, rfl⟩
   go_wp2_with fail
   refine (accept_any w.heap.size s _ _ true (hB0.cell 0) (hB0.cell 1) (hB0.frozen 1) (by decide) HP.out).mono ?_
   rintro e w' ⟨rfl, n1, rfl⟩
   go_wp2_with fail
   refine (value_any 16 w.heap.size 2 s (((w.alloc (.cells #[.string s, .int .i64 2, .int .i64 10] 277)).drewN n1).setCell ⟨w.heap.size, 2, none⟩ (.int .i64 16))
    (((Blk.new w 277 #[.string s, .int .i64 2, .int .i64 10]).drewN n1).set_ 2 _) hlen hm (.inr rfl)).mono ?_
   rintro e w' ⟨rfl, hb2⟩
   by_cases h2 : s.size ≤ 2
   ·
    have hs2 : s.size = 2 := by omega
    have HS := hi_ hs2
    clear hs2
    have he : valEnd 16 s 2 = .tuple #[.int .u64 0, .int .i64 0, .bool false] := by
     rw [valEnd, List.drop_of_length_le (by have := HS.out; show s.size ≤ 2; omega)]
     simp only [horner, HS.out]; rfl
    rw [he]
    clear he
    go_wp2
    go_ret2
    exact ⟨by rw [pu32v, pu32, if_pos HP.out, if_pos (Or.inr (show s.data.toList.length ≤ 2 from h2))]; rfl, Below.trans (Below.setCell (p := ⟨w.heap.size, 2, none⟩) (below_drewN ((Below.refl _ _).alloc (Nat.le_refl _) _) n1) (Nat.le_refl _) _) hb2⟩
   ·
    have hd : decide (2 < s.size) = true := by simpa using h2
    have hno : ¬ (10 < s.data.toList.length ∨ s.data.toList.length ≤ 2) := by
     intro h
     rcases h with h | h
     · exact hgt h
     · exact h2 h
    have HN := hi_ hno
    clear hno
    rcases hv : horner 16 0 (s.data.toList.drop 2) with _ | v
    ·
     have HV := hi_ hv
     clear hv
     have he : valEnd 16 s 2 = .tuple #[.int .u64 0, .int .i64 0, .bool false] := by rw [valEnd, HV.out]
     rw [he]
     clear he
     go_wp2
     go_ret2
     exact ⟨by rw [pu32v, pu32, if_pos HP.out, if_neg HN.out, HV.out]; rfl, Below.trans (Below.setCell (p := ⟨w.heap.size, 2, none⟩) (below_drewN ((Below.refl _ _).alloc (Nat.le_refl _) _) n1) (Nat.le_refl _) _) hb2⟩
    ·
     have hvl := horner_le 16 _ 0 v (by omega) hv
     have HV := hi_ hv
     clear hv
     have he : valEnd 16 s 2 = .tuple #[.int .u64 v, .int .i64 ((s.size - 2 : Nat) : Int), .bool true] := by rw [valEnd, HV.out]; simp only [hd]
     rw [he]
     clear he hd
     go_wp2
     go_ret2
     exact ⟨by rw [pu32v, pu32, if_pos HP.out, if_neg HN.out, HV.out]; rfl, Below.trans (Below.setCell (p := ⟨w.heap.size, 2, none⟩) (below_drewN ((Below.refl _ _).alloc (Nat.le_refl _) _) n1) (Nat.le_refl _) _) hb2⟩
def twos : List (List UInt8) := [[60, 61], [60, 60], [62, 62], [61, 61], [38, 38], [124, 124], [43, 43], [45, 62], [58, 61]]
def ones : List UInt8 := [40, 41, 91, 93, 123, 125, 44, 59, 58, 46, 60, 62, 43, 45, 38, 124, 94, 126, 33, 42, 47, 61, 63, 64, 37]
def sym (l : List UInt8) : Nat :=
 if l.take 2 ∈ twos then 2 else match l with
  | [] => 0
  | c :: _ => if c ∈ ones then 1 else 0
theorem sym_cons (c : UInt8) (l : List UInt8) (h : (c :: l).take 2 ∉ twos) : sym (c :: l) = if c ∈ ones then 1 else 0 := by rw [sym, if_neg h]
theorem ext2 (s : ByteArray) : (s.extract 0 2).toList = s.data.toList.take 2 := by
 rw [toList_data, ByteArray.data_extract]; simp
theorem byte_ne {c k : UInt8} (h : c ≠ k) : ((c.toNat : Int) == (k.toNat : Int)) = false := by
 rw [beq_eq_false_iff_ne]
 intro e
 exact h (UInt8.toNat_inj.1 (by omega))
theorem symbol_two (s : ByteArray) (w : World) (hs : s.size ≤ 1048576) (h2 : 2 ≤ s.size) (h : (s.extract 0 2).toList ∈ twos) :
  Calls Tryz.prog 198 #[.string s] w fun e w' => e = .returned (.int .i64 2) ∧ w = w' := by
 simp only [twos, List.mem_cons, List.not_mem_nil, or_false] at h
 rcases h with h | h | h | h | h | h | h | h | h
 all_goals
  go_enter Tryz.func198, Tryz.ntmps198
  go_wp2
  go_ret
  exact ⟨rfl, rfl⟩
theorem symbol_one (s : ByteArray) (w : World) (hs : s.size ≤ 1048576) (h2 : 2 ≤ s.size) (h : (s.extract 0 2).toList ∉ twos) (h1 : s[0]'(by omega) ∈ ones) :
  Calls Tryz.prog 198 #[.string s] w fun e w' => e = .returned (.int .i64 1) ∧ w = w' := by
 have h0 : 0 < s.size := by omega
 simp only [twos, List.mem_cons, List.not_mem_nil, or_false, not_or] at h
 obtain ⟨a0, a1, a2, a3, a4, a5, a6, a7, a8⟩ := h
 replace a0 := bf_ a0
 replace a1 := bf_ a1
 replace a2 := bf_ a2
 replace a3 := bf_ a3
 replace a4 := bf_ a4
 replace a5 := bf_ a5
 replace a6 := bf_ a6
 replace a7 := bf_ a7
 replace a8 := bf_ a8
 simp only [ones, List.mem_cons, List.not_mem_nil, or_false] at h1
 rcases h1 with h | h | h | h | h | h | h | h | h | h | h | h | h | h | h | h | h | h | h | h | h | h | h | h | h
 all_goals
  replace h := congrArg UInt8.toNat h
  go_enter Tryz.func198, Tryz.ntmps198
  go_wp2
  go_ret
  exact ⟨rfl, rfl⟩
theorem symbol_no (s : ByteArray) (w : World) (hs : s.size ≤ 1048576) (h2 : 2 ≤ s.size) (h : (s.extract 0 2).toList ∉ twos) (h1 : s[0]'(by omega) ∉ ones) :
  Calls Tryz.prog 198 #[.string s] w fun e w' => e = .returned (.int .i64 0) ∧ w = w' := by
 have h0 : 0 < s.size := by omega
 simp only [twos, List.mem_cons, List.not_mem_nil, or_false, not_or] at h
 obtain ⟨a0, a1, a2, a3, a4, a5, a6, a7, a8⟩ := h
 replace a0 := bf_ a0
 replace a1 := bf_ a1
 replace a2 := bf_ a2
 replace a3 := bf_ a3
 replace a4 := bf_ a4
 replace a5 := bf_ a5
 replace a6 := bf_ a6
 replace a7 := bf_ a7
 replace a8 := bf_ a8
 simp only [ones, List.mem_cons, List.not_mem_nil, or_false, not_or] at h1
 obtain ⟨b0, b1, b2, b3, b4, b5, b6, b7, b8, b9, b10, b11, b12, b13, b14, b15, b16, b17, b18, b19, b20, b21, b22, b23, b24⟩ := h1
 replace b0 : ((s[0].toNat : Int) == 40) = false := byte_ne b0
 replace b1 : ((s[0].toNat : Int) == 41) = false := byte_ne b1
 replace b2 : ((s[0].toNat : Int) == 91) = false := byte_ne b2
 replace b3 : ((s[0].toNat : Int) == 93) = false := byte_ne b3
 replace b4 : ((s[0].toNat : Int) == 123) = false := byte_ne b4
 replace b5 : ((s[0].toNat : Int) == 125) = false := byte_ne b5
 replace b6 : ((s[0].toNat : Int) == 44) = false := byte_ne b6
 replace b7 : ((s[0].toNat : Int) == 59) = false := byte_ne b7
 replace b8 : ((s[0].toNat : Int) == 58) = false := byte_ne b8
 replace b9 : ((s[0].toNat : Int) == 46) = false := byte_ne b9
 replace b10 : ((s[0].toNat : Int) == 60) = false := byte_ne b10
 replace b11 : ((s[0].toNat : Int) == 62) = false := byte_ne b11
 replace b12 : ((s[0].toNat : Int) == 43) = false := byte_ne b12
 replace b13 : ((s[0].toNat : Int) == 45) = false := byte_ne b13
 replace b14 : ((s[0].toNat : Int) == 38) = false := byte_ne b14
 replace b15 : ((s[0].toNat : Int) == 124) = false := byte_ne b15
 replace b16 : ((s[0].toNat : Int) == 94) = false := byte_ne b16
 replace b17 : ((s[0].toNat : Int) == 126) = false := byte_ne b17
 replace b18 : ((s[0].toNat : Int) == 33) = false := byte_ne b18
 replace b19 : ((s[0].toNat : Int) == 42) = false := byte_ne b19
 replace b20 : ((s[0].toNat : Int) == 47) = false := byte_ne b20
 replace b21 : ((s[0].toNat : Int) == 61) = false := byte_ne b21
 replace b22 : ((s[0].toNat : Int) == 63) = false := byte_ne b22
 replace b23 : ((s[0].toNat : Int) == 64) = false := byte_ne b23
 replace b24 : ((s[0].toNat : Int) == 37) = false := byte_ne b24
 go_enter Tryz.func198, Tryz.ntmps198
 go_wp2
 go_ret
 exact ⟨rfl, rfl⟩
theorem symbol_one' (s : ByteArray) (w : World) (hs : s.size ≤ 1048576) (h0 : 0 < s.size) (h2 : s.size < 2) (h1 : s[0]'(by omega) ∈ ones) :
  Calls Tryz.prog 198 #[.string s] w fun e w' => e = .returned (.int .i64 1) ∧ w = w' := by
 simp only [ones, List.mem_cons, List.not_mem_nil, or_false] at h1
 rcases h1 with h | h | h | h | h | h | h | h | h | h | h | h | h | h | h | h | h | h | h | h | h | h | h | h | h
 all_goals
  replace h := congrArg UInt8.toNat h
  go_enter Tryz.func198, Tryz.ntmps198
  go_wp2
  go_ret
  exact ⟨rfl, rfl⟩
theorem symbol_no' (s : ByteArray) (w : World) (hs : s.size ≤ 1048576) (h0 : 0 < s.size) (h2 : s.size < 2) (h1 : s[0]'(by omega) ∉ ones) :
  Calls Tryz.prog 198 #[.string s] w fun e w' => e = .returned (.int .i64 0) ∧ w = w' := by
 simp only [ones, List.mem_cons, List.not_mem_nil, or_false, not_or] at h1
 obtain ⟨b0, b1, b2, b3, b4, b5, b6, b7, b8, b9, b10, b11, b12, b13, b14, b15, b16, b17, b18, b19, b20, b21, b22, b23, b24⟩ := h1
 replace b0 : ((s[0].toNat : Int) == 40) = false := byte_ne b0
 replace b1 : ((s[0].toNat : Int) == 41) = false := byte_ne b1
 replace b2 : ((s[0].toNat : Int) == 91) = false := byte_ne b2
 replace b3 : ((s[0].toNat : Int) == 93) = false := byte_ne b3
 replace b4 : ((s[0].toNat : Int) == 123) = false := byte_ne b4
 replace b5 : ((s[0].toNat : Int) == 125) = false := byte_ne b5
 replace b6 : ((s[0].toNat : Int) == 44) = false := byte_ne b6
 replace b7 : ((s[0].toNat : Int) == 59) = false := byte_ne b7
 replace b8 : ((s[0].toNat : Int) == 58) = false := byte_ne b8
 replace b9 : ((s[0].toNat : Int) == 46) = false := byte_ne b9
 replace b10 : ((s[0].toNat : Int) == 60) = false := byte_ne b10
 replace b11 : ((s[0].toNat : Int) == 62) = false := byte_ne b11
 replace b12 : ((s[0].toNat : Int) == 43) = false := byte_ne b12
 replace b13 : ((s[0].toNat : Int) == 45) = false := byte_ne b13
 replace b14 : ((s[0].toNat : Int) == 38) = false := byte_ne b14
 replace b15 : ((s[0].toNat : Int) == 124) = false := byte_ne b15
 replace b16 : ((s[0].toNat : Int) == 94) = false := byte_ne b16
 replace b17 : ((s[0].toNat : Int) == 126) = false := byte_ne b17
 replace b18 : ((s[0].toNat : Int) == 33) = false := byte_ne b18
 replace b19 : ((s[0].toNat : Int) == 42) = false := byte_ne b19
 replace b20 : ((s[0].toNat : Int) == 47) = false := byte_ne b20
 replace b21 : ((s[0].toNat : Int) == 61) = false := byte_ne b21
 replace b22 : ((s[0].toNat : Int) == 63) = false := byte_ne b22
 replace b23 : ((s[0].toNat : Int) == 64) = false := byte_ne b23
 replace b24 : ((s[0].toNat : Int) == 37) = false := byte_ne b24
 go_enter Tryz.func198, Tryz.ntmps198
 go_wp2
 go_ret
 exact ⟨rfl, rfl⟩
theorem symbol_any (s : ByteArray) (w : World) (hs : s.size ≤ 1048576) (h0 : 0 < s.size) :
  Calls Tryz.prog 198 #[.string s] w fun e w' => e = .returned (.int .i64 (sym s.data.toList)) ∧ w = w' := by
 by_cases h2 : 2 ≤ s.size
 ·
  by_cases h : (s.extract 0 2).toList ∈ twos
  ·
   have e : sym s.data.toList = 2 := by unfold sym; rw [if_pos (by rw [← ext2]; exact h)]
   rw [e]
   exact symbol_two s w hs h2 h
  ·
   have e : sym s.data.toList = if s[0] ∈ ones then 1 else 0 := by
    rw [list_one s h0, sym_cons]; rw [← list_one s h0, ← ext2]; exact h
   rw [e]
   by_cases h1 : s[0] ∈ ones
   · rw [if_pos h1]; exact symbol_one s w hs h2 h h1
   · rw [if_neg h1]; exact symbol_no s w hs h2 h h1
 ·
  have h2' : s.size = 1 := by omega
  have e : sym s.data.toList = if s[0] ∈ ones then 1 else 0 := by
   obtain ⟨a, ha⟩ := List.length_eq_one_iff.1 (show s.data.toList.length = 1 from h2')
   rw [list_one s h0, sym_cons]; rw [← list_one s h0, ha]; simp [twos]
  rw [e]
  by_cases h1 : s[0] ∈ ones
  · rw [if_pos h1]; exact symbol_one' s w hs h0 (by omega) h1
  · rw [if_neg h1]; exact symbol_no' s w hs h0 (by omega) h1
def numErr (l : List UInt8) : Nat :=
 if 2 < l.length ∧ l.take 2 = [48, 120] ∧ ext isHexd (l.drop 2) = l.length - 2 then 9
 else if l.head? ≠ some 48 ∧ ext isDig l = l.length then 9 else 5
theorem hexd_any (c : Int) (w : World) :
  Calls Tryz.prog 245 #[.int .u8 c] w fun e w' => e = .returned (.bool (isHexd c)) ∧ w = w' := by
 go_enter Tryz.func245, Tryz.ntmps245
 go_wp2_with (first
  | (go_at_call 194; refine (isDigit_any _ _).mono ?_; rintro e w' ⟨rfl, rfl⟩))
 all_goals (go_ret; exact ⟨ret_bool (by rw [Bool.eq_iff_iff]; simp [isHexd, *]; try omega), rfl⟩)
theorem next1_any (c : Int) (w : World) :
  Calls Tryz.prog 193 #[.int .u8 c] w fun e w' => e = .returned (.bool (isWord c)) ∧ w = w' := by
 go_enter Tryz.func193, Tryz.ntmps193
 go_wp2_with (first
  | (go_at_call 192; refine (isLetter_any _ _).mono ?_; rintro e w' ⟨rfl, rfl⟩)
  | (go_at_call 194; refine (isDigit_any _ _).mono ?_; rintro e w' ⟨rfl, rfl⟩))
 all_goals (go_ret; exact ⟨ret_bool (by rw [Bool.eq_iff_iff]; simp [isWord, *]), rfl⟩)
theorem next2_any (c : Int) (w : World) :
  Calls Tryz.prog 195 #[.int .u8 c] w fun e w' => e = .returned (.bool (isAlnum c)) ∧ w = w' := by
 go_enter Tryz.func195, Tryz.ntmps195
 go_wp2_with (first
  | (go_at_call 192; refine (isLetter_any _ _).mono ?_; rintro e w' ⟨rfl, rfl⟩)
  | (go_at_call 194; refine (isDigit_any _ _).mono ?_; rintro e w' ⟨rfl, rfl⟩))
 all_goals (go_ret; exact ⟨ret_bool (by rw [Bool.eq_iff_iff]; simp [isAlnum, *]), rfl⟩)
theorem ext_hexd (s : ByteArray) (w : World) (hs : s.size ≤ maxLen) :
  Calls Tryz.prog 125 #[.string s, .func (.func 245) #[] #[]] w fun e w' => e = .returned (.int .i64 (ext isHexd s.data.toList)) ∧ w = w' :=
 extent_any _ isHexd s w hs (fun _ _ => by kernel_rfl) (hi_ hexd_any)
theorem ext_dig (s : ByteArray) (w : World) (hs : s.size ≤ maxLen) :
  Calls Tryz.prog 125 #[.string s, .func (.func 194) #[] #[]] w fun e w' => e = .returned (.int .i64 (ext isDig s.data.toList)) ∧ w = w' :=
 extent_any _ isDig s w hs (fun _ _ => by kernel_rfl) (hi_ isDigit_any)
theorem ext_word (s : ByteArray) (w : World) (hs : s.size ≤ maxLen) :
  Calls Tryz.prog 125 #[.string s, .func (.func 193) #[] #[]] w fun e w' => e = .returned (.int .i64 (ext isWord s.data.toList)) ∧ w = w' :=
 extent_any _ isWord s w hs (fun _ _ => by kernel_rfl) (hi_ next1_any)
theorem ext_alnum (s : ByteArray) (w : World) (hs : s.size ≤ maxLen) :
  Calls Tryz.prog 125 #[.string s, .func (.func 195) #[] #[]] w fun e w' => e = .returned (.int .i64 (ext isAlnum s.data.toList)) ∧ w = w' :=
 extent_any _ isAlnum s w hs (fun _ _ => by kernel_rfl) (hi_ next2_any)
theorem take_rest (s : ByteArray) (k : Nat) : List.take (s.size - k) (List.drop k s.data.toList) = s.data.toList.drop k := List.take_of_length_le (by rw [List.length_drop]; exact Nat.le_refl _)
theorem size_len (s : ByteArray) : s.data.toList.length = s.size := rfl
theorem head_ne (s : ByteArray) (h0 : 0 < s.size) : ((s[0].toNat : Int) != 48) = decide (s.data.toList.head? ≠ some 48) := by
 rw [list_one s h0, Bool.eq_iff_iff, bne_iff_ne, decide_eq_true_iff]
 simp only [List.head?_cons, ne_eq, Option.some.injEq]
 rw [← UInt8.toNat_inj]
 show _ ↔ ¬ s[0].toNat = 48
 omega
theorem numberError_a (s : ByteArray) (w : World) (hs : s.size ≤ 1048576) (h0 : 0 < s.size) (x y z : Bool) (hx : decide (2 < s.size) = x)
  (hy : ((s.extract 0 2).toList == [48, 120]) = y) (hz : ((ext isHexd (List.take (s.size - 2) (List.drop 2 s.data.toList)) : Int) == (s.size : Int) - 2) = z) (u v : Bool)
  (hu : ((s[0].toNat : Int) != 48) = u) (hv : ((ext isDig s.data.toList : Int) == (s.size : Int)) = v) :
  Calls Tryz.prog 197 #[.string s] w fun e w' => e = .returned (.int .i64 (if x && y && z then 9 else if u && v then 9 else 5)) ∧ w = w' := by
 have hm : s.size ≤ maxLen := by unfold maxLen; omega
 cases x <;> cases y <;> cases z <;> cases u <;> cases v
 all_goals
  simp only [decide_eq_true_eq, decide_eq_false_iff_not] at hx
  go_enter Tryz.func197, Tryz.ntmps197
  go_wp2_with (first
   | (go_at_call_of 125 (Value.string (s.extract 2 s.size)); refine (ext_hexd _ _ (by unfold maxLen; simp; omega)).mono ?_; rintro e w' ⟨rfl, rfl⟩)
   | (go_at_call 125; refine (ext_dig _ _ hm).mono ?_; rintro e w' ⟨rfl, rfl⟩))
  go_ret
  exact ⟨rfl, rfl⟩
theorem numberError_any (s : ByteArray) (w : World) (hs : s.size ≤ 1048576) (h0 : 0 < s.size) :
  Calls Tryz.prog 197 #[.string s] w fun e w' => e = .returned (.int .i64 (numErr s.data.toList)) ∧ w = w' := by
 refine (numberError_a s w hs h0 _ _ _ rfl rfl rfl _ _ rfl rfl).mono fun e w' h => ⟨?_, h.2⟩
 rw [h.1]
 refine ret_int ?_
 have e1 : (decide (2 < s.size) && (s.extract 0 2).toList == [48, 120] && ((ext isHexd (List.take (s.size - 2) (List.drop 2 s.data.toList)) : Int) == (s.size : Int) - 2)) =
   decide (2 < s.data.toList.length ∧ s.data.toList.take 2 = [48, 120] ∧ ext isHexd (s.data.toList.drop 2) = s.data.toList.length - 2) := by
  rw [Bool.eq_iff_iff, decide_eq_true_iff, Bool.and_eq_true, Bool.and_eq_true, decide_eq_true_iff, beq_iff_eq, beq_iff_eq, ext2, take_rest, size_len]
  constructor
  · rintro ⟨⟨a, b⟩, c⟩; exact ⟨a, b, by omega⟩
  · rintro ⟨a, b, c⟩; exact ⟨⟨a, b⟩, by omega⟩
 have e2 : (((s[0].toNat : Int) != 48) && ((ext isDig s.data.toList : Int) == (s.size : Int))) = decide (s.data.toList.head? ≠ some 48 ∧ ext isDig s.data.toList = s.data.toList.length) := by
  rw [head_ne s h0, Bool.eq_iff_iff, decide_eq_true_iff, Bool.and_eq_true, decide_eq_true_iff, beq_iff_eq, size_len]
  constructor
  · rintro ⟨a, b⟩; exact ⟨a, by omega⟩
  · rintro ⟨a, b⟩; exact ⟨a, by omega⟩
 rw [e1, e2]
 simp only [decide_eq_true_eq]
 unfold numErr
 split <;> rename_i h
 · rfl
 · split <;> rfl
structure Tk where
 kind : Nat
 text : List UInt8
 value : Nat
 line : Nat
 deriving DecidableEq
def Tk.cells (t : Tk) : Array Value := #[.int .i64 t.kind, .string ⟨t.text.toArray⟩, .int .u32 t.value, .int .i64 t.line]
def Tk.zero : Tk := ⟨0, [], 0, 0⟩
def nextM (l : List UInt8) : Tk × Nat :=
 match l with
 | [] => (Tk.zero, 5)
 | c :: _ =>
  if isLet c.toNat = true then
   (if 16 < ext isWord l then (Tk.zero, 4) else (⟨1, l.take (ext isWord l), 0, 0⟩, 0))
  else if isDig c.toNat = true then
   (match pu32 (l.take (ext isAlnum l)) with
   | none => (Tk.zero, numErr (l.take (ext isAlnum l)))
   | some v => (⟨2, l.take (ext isAlnum l), v, 0⟩, 0))
  else if sym l = 0 then (Tk.zero, 5) else (⟨3, l.take (sym l), 0, 0⟩, 0)
def nextEnd (l : List UInt8) : Ending := .returned (.tuple #[.agg (nextM l).1.cells, .int .i64 (nextM l).2])
theorem take_str (s : ByteArray) (n : Nat) : s.extract 0 n = ⟨(s.data.toList.take n).toArray⟩ := by
 apply ByteArray.ext
 rw [ByteArray.data_extract]
 apply Array.ext'
 simp
theorem take_data (s : ByteArray) (n : Nat) : (s.extract 0 n).data.toList = s.data.toList.take n := by rw [take_str]
theorem size_take (s : ByteArray) {n : Nat} (h : n ≤ s.size) : (s.extract 0 n).size = n := by simp; omega
theorem isLet_head (s : ByteArray) (h0 : 0 < s.size) : nextM s.data.toList =
  if isLet s[0].toNat = true then (if 16 < ext isWord s.data.toList then (Tk.zero, 4) else (⟨1, s.data.toList.take (ext isWord s.data.toList), 0, 0⟩, 0))
  else if isDig s[0].toNat = true then
   (match pu32 (s.data.toList.take (ext isAlnum s.data.toList)) with
   | none => (Tk.zero, numErr (s.data.toList.take (ext isAlnum s.data.toList)))
   | some v => (⟨2, s.data.toList.take (ext isAlnum s.data.toList), v, 0⟩, 0))
  else if sym s.data.toList = 0 then (Tk.zero, 5) else (⟨3, s.data.toList.take (sym s.data.toList), 0, 0⟩, 0) := by
 generalize hl : s.data.toList = l
 rw [list_one s h0] at hl
 subst hl
 rfl
theorem next_let (s : ByteArray) (w : World) (hs : s.size ≤ 1048576) (h0 : 0 < s.size) (hl : isLet (s[0].toNat : Int) = true) :
  Calls Tryz.prog 127 #[.string s] w fun e w' => e = nextEnd s.data.toList ∧ Below w.heap.size w w' := by
 have hm : s.size ≤ maxLen := by unfold maxLen; omega
 have hle : ext isWord s.data.toList ≤ s.size := ext_le _ _
 have HN := hi_ (isLet_head s h0)
 have HL := hi_ hl
 clear hl
 by_cases hg : 16 < ext isWord s.data.toList
 ·
  have HG := hi_ hg
  go_enter Tryz.func127, Tryz.ntmps127
  go_wp2_with fail
  refine (isLetter_any _ _).mono ?_
  rintro e w' ⟨rfl, rfl⟩
  have hl := HL.out
  go_wp2_with fail
  refine (ext_word _ _ hm).mono ?_
  rintro e w' ⟨rfl, rfl⟩
  clear hl
  go_wp2
  refine bodyPost_ret (v := .tuple #[.agg Tk.zero.cells, .int .i64 4]) (by simp [results, Tryz.results127, go_sem]; rfl) rfl ⟨?_, (Below.refl _ _).alloc (Nat.le_refl _) _⟩
  rw [nextEnd, HN.out, if_pos HL.out, if_pos HG.out]
  rfl
 ·
  have HG := hi_ hg
  go_enter Tryz.func127, Tryz.ntmps127
  go_wp2_with fail
  refine (isLetter_any _ _).mono ?_
  rintro e w' ⟨rfl, rfl⟩
  have hl := HL.out
  go_wp2_with fail
  refine (ext_word _ _ hm).mono ?_
  rintro e w' ⟨rfl, rfl⟩
  clear hl
  go_wp2
  refine bodyPost_ret (v := .tuple #[.agg #[.int .i64 1, .string (s.extract 0 (ext isWord s.data.toList)), .int .u32 0, .int .i64 0], .int .i64 0]) (by simp [results, Tryz.results127, go_sem]) rfl ⟨?_, (Below.refl _ _).alloc (Nat.le_refl _) _⟩
  rw [nextEnd, HN.out, if_pos HL.out, if_neg HG.out, take_str]
  rfl
theorem next_dig (s : ByteArray) (w : World) (hs : s.size ≤ 1048576) (h0 : 0 < s.size) (hl : isLet (s[0].toNat : Int) = false) (hd : isDig (s[0].toNat : Int) = true) :
  Calls Tryz.prog 127 #[.string s] w fun e w' => e = nextEnd s.data.toList ∧ Below w.heap.size w w' := by
 have hm : s.size ≤ maxLen := by unfold maxLen; omega
 have hle : ext isAlnum s.data.toList ≤ s.size := ext_le _ _
 have HP : Hid (0 < ext isAlnum s.data.toList) := by
  refine hi_ ?_
  rw [list_one s h0, ext, if_pos (by rw [isAlnum, hd, Bool.or_true])]
  omega
 have HN := hi_ (isLet_head s h0)
 have HL := hi_ hl
 have HD := hi_ hd
 clear hl hd
 have hsz : (s.extract 0 (ext isAlnum s.data.toList)).size ≤ 1048576 := by simp; omega
 have HS := hi_ hsz
 clear hsz
 rcases hv : pu32 (s.data.toList.take (ext isAlnum s.data.toList)) with _ | v
 ·
  have HV := hi_ hv
  clear hv
  go_enter Tryz.func127, Tryz.ntmps127
  go_wp2_with fail
  refine (isLetter_any _ _).mono ?_
  rintro e w' ⟨rfl, rfl⟩
  have hl := HL.out
  go_wp2_with fail
  refine (isDigit_any _ _).mono ?_
  rintro e w' ⟨rfl, rfl⟩
  have hd := HD.out
  go_wp2_with fail
  refine (ext_alnum _ _ hm).mono ?_
  rintro e w' ⟨rfl, rfl⟩
  clear hl hd
  go_wp2_with fail
  refine (parseUint32_any _ _ HS.out).mono ?_
  rintro e w1 ⟨rfl, hb⟩
  rw [show pu32v (s.extract 0 (ext isAlnum s.data.toList)).data.toList = .tuple #[.int .u32 0, .bool false] from by rw [pu32v, take_data, HV.out]]
  have hz : w.heap.size + 1 ≤ w1.heap.size := by have := hb.size; simpa using this
  have hc : ∀ i, w1.cell? ⟨w.heap.size, i, none⟩ = (w.alloc (.cells #[.int .i64 0, .string ⟨#[]⟩, .int .u32 0, .int .i64 0] 191)).cell? ⟨w.heap.size, i, none⟩ := fun i => hb.cell (by simp)
  have hf : ∀ i, w1.frozen? ⟨w.heap.size, i, none⟩ = (w.alloc (.cells #[.int .i64 0, .string ⟨#[]⟩, .int .u32 0, .int .i64 0] 191)).frozen? ⟨w.heap.size, i, none⟩ := fun i => hb.frozen (by simp)
  go_wp2_with fail
  refine (numberError_any _ _ HS.out (by rw [size_take s hle]; exact HP.out)).mono ?_
  rintro e w' ⟨rfl, rfl⟩
  go_wp2
  have hbk : Blk w1 w.heap.size 191 #[.int .i64 0, .string ⟨#[]⟩, .int .u32 0, .int .i64 0] := (Blk.new w 191 _).below hb (by simp)
  refine bodyPost_ret (results_row_tmp rfl _ _ w.heap.size 191 #[.int .i64 0, .string ⟨#[]⟩, .int .u32 0, .int .i64 0] _ rfl ((((hbk.set_ 0 _).set_ 1 _).set_ 2 _).set_ 3 _) Tryz.underlying191 rfl (by kernel_rfl)) rfl ⟨?_, ?_⟩
  ·
   rw [nextEnd, HN.out, if_neg (by rw [HL.out]; decide), if_pos HD.out, HV.out]
   rfl
  · exact ((((((Below.refl _ _).alloc (Nat.le_refl _) _).trans (hb.mono (by simp))).setCell (p := ⟨w.heap.size, 0, none⟩) (Nat.le_refl _) _).setCell (p := ⟨w.heap.size, 1, none⟩) (Nat.le_refl _) _).setCell (p := ⟨w.heap.size, 2, none⟩) (Nat.le_refl _) _).setCell (p := ⟨w.heap.size, 3, none⟩) (Nat.le_refl _) _
 ·
  have HV := hi_ hv
  clear hv
  go_enter Tryz.func127, Tryz.ntmps127
  go_wp2_with fail
  refine (isLetter_any _ _).mono ?_
  rintro e w' ⟨rfl, rfl⟩
  have hl := HL.out
  go_wp2_with fail
  refine (isDigit_any _ _).mono ?_
  rintro e w' ⟨rfl, rfl⟩
  have hd := HD.out
  go_wp2_with fail
  refine (ext_alnum _ _ hm).mono ?_
  rintro e w' ⟨rfl, rfl⟩
  clear hl hd
  go_wp2_with fail
  refine (parseUint32_any _ _ HS.out).mono ?_
  rintro e w1 ⟨rfl, hb⟩
  rw [show pu32v (s.extract 0 (ext isAlnum s.data.toList)).data.toList = .tuple #[.int .u32 v, .bool true] from by rw [pu32v, take_data, HV.out]]
  have hz : w.heap.size + 1 ≤ w1.heap.size := by have := hb.size; simpa using this
  have hc : ∀ i, w1.cell? ⟨w.heap.size, i, none⟩ = (w.alloc (.cells #[.int .i64 0, .string ⟨#[]⟩, .int .u32 0, .int .i64 0] 191)).cell? ⟨w.heap.size, i, none⟩ := fun i => hb.cell (by simp)
  have hf : ∀ i, w1.frozen? ⟨w.heap.size, i, none⟩ = (w.alloc (.cells #[.int .i64 0, .string ⟨#[]⟩, .int .u32 0, .int .i64 0] 191)).frozen? ⟨w.heap.size, i, none⟩ := fun i => hb.frozen (by simp)
  go_wp2
  have hbk : Blk w1 w.heap.size 191 #[.int .i64 0, .string ⟨#[]⟩, .int .u32 0, .int .i64 0] := (Blk.new w 191 _).below hb (by simp)
  refine bodyPost_ret (results_row_tmp rfl _ _ w.heap.size 191 #[.int .i64 2, .string (s.extract 0 (ext isAlnum s.data.toList)), .int .u32 v, .int .i64 0] _ rfl ((((hbk.set_ 0 _).set_ 1 _).set_ 2 _).set_ 3 _) Tryz.underlying191 rfl (by kernel_rfl)) rfl ⟨?_, ?_⟩
  ·
   rw [nextEnd, HN.out, if_neg (by rw [HL.out]; decide), if_pos HD.out, HV.out]
   simp only [take_str]; rfl
  · exact ((((((Below.refl _ _).alloc (Nat.le_refl _) _).trans (hb.mono (by simp))).setCell (p := ⟨w.heap.size, 0, none⟩) (Nat.le_refl _) _).setCell (p := ⟨w.heap.size, 1, none⟩) (Nat.le_refl _) _).setCell (p := ⟨w.heap.size, 2, none⟩) (Nat.le_refl _) _).setCell (p := ⟨w.heap.size, 3, none⟩) (Nat.le_refl _) _
theorem next_sym (s : ByteArray) (w : World) (hs : s.size ≤ 1048576) (h0 : 0 < s.size) (hl : isLet (s[0].toNat : Int) = false) (hd : isDig (s[0].toNat : Int) = false) :
  Calls Tryz.prog 127 #[.string s] w fun e w' => e = nextEnd s.data.toList ∧ Below w.heap.size w w' := by
 have HN := hi_ (isLet_head s h0)
 have HL := hi_ hl
 have HD := hi_ hd
 clear hl hd
 have hle : sym s.data.toList ≤ s.size := by
  unfold sym
  split
  ·
   rename_i h
   rcases Nat.lt_or_ge s.size 2 with h2 | h2
   ·
    exfalso
    obtain ⟨a, ha⟩ := List.length_eq_one_iff.1 (show s.data.toList.length = 1 by show s.size = 1; omega)
    rw [ha] at h
    simp [twos] at h
   · exact h2
  ·
   split
   · exact Nat.zero_le _
   · split <;> omega
 by_cases hz : sym s.data.toList = 0
 all_goals
  have HZ := hi_ hz
  clear hz
  go_enter Tryz.func127, Tryz.ntmps127
  go_wp2_with fail
  refine (isLetter_any _ _).mono ?_
  rintro e w' ⟨rfl, rfl⟩
  have hl := HL.out
  go_wp2_with fail
  refine (isDigit_any _ _).mono ?_
  rintro e w' ⟨rfl, rfl⟩
  have hd := HD.out
  go_wp2_with fail
  refine (symbol_any _ _ hs h0).mono ?_
  rintro e w' ⟨rfl, rfl⟩
  clear hl hd
 ·
  have hz : ((sym s.data.toList : Int) == 0) = true := beq_iff_eq.2 (by have := HZ.out; omega)
  go_wp2
  refine bodyPost_ret (v := .tuple #[.agg Tk.zero.cells, .int .i64 5]) (by simp [results, Tryz.results127, go_sem]; rfl) rfl ⟨?_, (Below.refl _ _).alloc (Nat.le_refl _) _⟩
  rw [nextEnd, HN.out, if_neg (by rw [HL.out]; decide), if_neg (by rw [HD.out]; decide), if_pos HZ.out]
  rfl
 ·
  have hz : ((sym s.data.toList : Int) == 0) = false := bf_ (by have := HZ.out; omega)
  go_wp2
  refine bodyPost_ret (v := .tuple #[.agg #[.int .i64 3, .string (s.extract 0 (sym s.data.toList)), .int .u32 0, .int .i64 0], .int .i64 0]) (by simp [results, Tryz.results127, go_sem]) rfl ⟨?_, (Below.refl _ _).alloc (Nat.le_refl _) _⟩
  rw [nextEnd, HN.out, if_neg (by rw [HL.out]; decide), if_neg (by rw [HD.out]; decide), if_neg HZ.out, take_str]
  rfl
theorem next_any (s : ByteArray) (w : World) (hs : s.size ≤ 1048576) (h0 : 0 < s.size) :
  Calls Tryz.prog 127 #[.string s] w fun e w' => e = nextEnd s.data.toList ∧ Below w.heap.size w w' := by
 rcases hl : isLet (s[0].toNat : Int) with _ | _
 ·
  rcases hd : isDig (s[0].toNat : Int) with _ | _
  · exact next_sym s w hs h0 hl hd
  · exact next_dig s w hs h0 hl hd
 · exact next_let s w hs h0 hl
theorem le_nat (a b : UInt8) : a ≤ b ↔ a.toNat ≤ b.toNat := UInt8.le_iff_toNat_le
def decF : Nat → List UInt8 → Option Nat
 | acc, [] => some acc
 | acc, c :: l => if 48 ≤ c.toNat ∧ c.toNat ≤ 57 then decF (10 * acc + (c.toNat - 48)) l else none
def dbyte (n : Nat) : UInt8 := UInt8.ofNat (48 + n)
theorem dbyte_nat {n : Nat} (h : n < 10) : (dbyte n).toNat = 48 + n := by
 unfold dbyte; simp; omega
def decD : Nat → Nat → List UInt8
 | 0, _ => []
 | k + 1, n => if n < 10 then [dbyte n] else decD k (n / 10) ++ [dbyte (n % 10)]
theorem decD_len : ∀ k n, (decD k n).length ≤ k
 | 0, _ => Nat.le_refl _
 | k + 1, n => by
  rw [decD]
  split
  · simp
  ·
   have := decD_len k (n / 10)
   simp; omega
def dec (n : Nat) : List UInt8 := decD 20 n
theorem digits_one (n : Nat) (w : World) (h : n < 10) :
  Calls Tryz.prog 59 #[.int .u64 n] w fun e w' => e = .returned (.string ⟨#[dbyte n]⟩) ∧ Below w.heap.size w w' := by
 have hcv : (convert 172 9 (.slice (some ⟨w.heap.size, 0, none⟩) 1 1)).run Tryz.prog (w.alloc (.cells #[.int .u8 (48 + (n : Int))] 5)) = .ok (.string ⟨#[dbyte n]⟩) (w.alloc (.cells #[.int .u8 (48 + (n : Int))] 5)) := by
  refine run_convert_bytes_back (P := Tryz.prog) _ 172 9 5 ⟨w.heap.size, 0, none⟩ 1 [dbyte n] Tryz.underlying172 Tryz.underlying5 Tryz.underlying9 ?_
  intro j hj
  have h0 : j = 0 := by simpa using hj
  subst h0
  simp [Addr.add, dbyte_nat h]
 go_enter Tryz.func59, Tryz.ntmps59
 go_wp2
 go_ret
 exact ⟨rfl, (Below.refl _ _).alloc (Nat.le_refl _) _⟩
theorem str_app (a b : List UInt8) : (⟨a.toArray⟩ : ByteArray) ++ ⟨b.toArray⟩ = ⟨(a ++ b).toArray⟩ := by
 apply ByteArray.ext
 apply Array.ext'
 simp
theorem rdigits_any : ∀ (k n : Nat) (w : World), k ≤ 20 → n < 10 ^ (k + 1) → n < 18446744073709551616 →
  Calls Tryz.prog 59 #[.int .u64 n] w fun e w' => e = .returned (.string ⟨(decD (k + 1) n).toArray⟩) ∧ Below w.heap.size w w'
 | k, n, w, hk, hn, h64 => by
  by_cases h : n < 10
  ·
   rw [decD, if_pos h]
   exact digits_one n w h
  ·
   match k, hk, hn with
   | 0, _, hn => simp at hn; omega
   | k + 1, hk, hn =>
    have IH := hi_ (rdigits_any k (n / 10) w (by omega) (by rw [Nat.pow_succ] at hn; omega) (by omega))
    have HE : Hid (decD (k + 1 + 1) n = decD (k + 1) (n / 10) ++ [dbyte (n % 10)]) := by refine hi_ ?_; rw [decD, if_neg h]
    have hL : (decD (k + 1) (n / 10)).length ≤ 20 := Nat.le_trans (decD_len (k + 1) (n / 10)) hk
    clear hn
    go_enter Tryz.func59, Tryz.ntmps59
    go_wp2_with fail
    rw [show ((n : Int) / 10) = ((n / 10 : Nat) : Int) from by omega]
    refine IH.out.mono ?_
    rintro e w1 ⟨rfl, hb1⟩
    go_wp2_with fail
    rw [show ((n : Int) % 10) = ((n % 10 : Nat) : Int) from by omega]
    refine (digits_one (n % 10) _ (by omega)).mono ?_
    rintro e w2 ⟨rfl, hb2⟩
    go_wp2
    go_ret
    refine ⟨?_, hb1.trans (hb2.mono hb1.size)⟩
    rw [HE.out, ← str_app]
    rfl
theorem decF_snoc : ∀ (l : List UInt8) (acc : Nat) (c : UInt8), decF acc (l ++ [c]) = match decF acc l with
  | none => none
  | some n => if 48 ≤ c.toNat ∧ c.toNat ≤ 57 then some (10 * n + (c.toNat - 48)) else none
 | [], acc, c => by simp only [List.nil_append, decF]
 | x :: l, acc, c => by
  simp only [List.cons_append, decF]
  split
  · exact decF_snoc l _ c
  · rfl
theorem decF_ge : ∀ (l : List UInt8) (acc v : Nat), decF acc l = some v → acc ≤ v
 | [], acc, v, h => by rw [decF] at h; injection h with h; omega
 | c :: l, acc, v, h => by
  rw [decF] at h
  split at h
  · have := decF_ge l _ v h; omega
  · cases h
def headNz : List UInt8 → Bool
 | [] => false
 | c :: _ => c != 48
theorem canon_two {l : List UInt8} (h : 2 ≤ l.length) : canon l = headNz l := by
 match l, h with
 | _ :: _ :: _, _ => rfl
theorem headNz_app {l r : List UInt8} (h : l ≠ []) : headNz (l ++ r) = headNz l := by
 match l, h with
 | _ :: _, _ => rfl
theorem headNz_dec : ∀ (k n : Nat), 0 < n → n < 10 ^ k → headNz (decD k n) = true ∧ decD k n ≠ []
 | 0, n, h0, h => by simp at h; omega
 | k + 1, n, h0, h => by
  rw [decD]
  split
  ·
   refine ⟨?_, by simp⟩
   show (dbyte n != 48) = true
   rw [bne_iff_ne]
   intro e
   have := congrArg UInt8.toNat e
   rw [dbyte_nat (by omega)] at this
   have e48 : (48 : UInt8).toNat = 48 := rfl
   omega
  ·
   have ih := headNz_dec k (n / 10) (by omega) (by rw [Nat.pow_succ] at h; omega)
   exact ⟨by rw [headNz_app ih.2]; exact ih.1, by simp⟩
theorem canon_dec (k n : Nat) (hk : 0 < k) (h : n < 10 ^ k) : canon (decD k n) = true := by
 match k, hk with
 | k + 1, _ =>
  by_cases h10 : n < 10
  · rw [decD, if_pos h10]; rfl
  ·
   have ih := headNz_dec k (n / 10) (by omega) (by rw [Nat.pow_succ] at h; omega)
   rw [decD, if_neg h10, canon_two, headNz_app ih.2]
   · exact ih.1
   ·
    have : 0 < (decD k (n / 10)).length := List.length_pos_iff.2 ih.2
    simp; omega
theorem decF_dec : ∀ (k n : Nat), 0 < k → n < 10 ^ k → decF 0 (decD k n) = some n
 | k + 1, n, _, h => by
  rw [decD]
  split
  ·
   rename_i h10
   rw [decF, dbyte_nat h10, if_pos (by omega), decF]
   congr 1; omega
  ·
   rename_i h10
   rw [Nat.pow_succ] at h
   have hk : 0 < k := by
    rcases Nat.eq_zero_or_pos k with h0 | h0
    · subst h0; simp at h; omega
    · exact h0
   rw [decF_snoc, decF_dec k (n / 10) hk (by omega)]
   simp only
   rw [dbyte_nat (by omega), if_pos (by omega)]
   congr 1; omega
theorem dgt10 (c : UInt8) : dgt 10 c = if 48 ≤ c.toNat ∧ c.toNat ≤ 57 then some (c.toNat - 48) else none := by
 unfold dgt
 simp only [le_nat]
 have e1 : (57 : UInt8).toNat = 57 := rfl
 have e2 : (48 : UInt8).toNat = 48 := rfl
 rw [e1, e2]
 split
 · rfl
 · rw [if_neg (by omega)]
theorem horner10 : ∀ (l : List UInt8) (acc : Nat), acc ≤ 4294967295 → horner 10 acc l = match decF acc l with
  | none => none
  | some v => if v ≤ 4294967295 then some v else none
 | [], acc, h => by simp only [horner, decF, h, if_true]
 | c :: l, acc, h => by
  rw [horner, decF, dgt10]
  by_cases hc : 48 ≤ c.toNat ∧ c.toNat ≤ 57
  ·
   rw [if_pos hc, if_pos hc]
   simp only
   rw [Nat.mul_comm acc 10]
   by_cases hg : 4294967295 < 10 * acc + (c.toNat - 48)
   ·
    rw [if_pos hg]
    rcases hd : decF (10 * acc + (c.toNat - 48)) l with _ | v
    · rfl
    ·
     have := decF_ge l _ v hd
     simp only
     rw [if_neg (by omega)]
   ·
    rw [if_neg hg]
    exact horner10 l _ (by omega)
  · rw [if_neg hc, if_neg hc]
theorem prefix_iff (l : List UInt8) : Lib.hasPrefix l [48, 120] = true ↔ (2 ≤ l.length ∧ l.take 2 = [48, 120]) := by
 unfold Lib.hasPrefix
 match l with
 | [] => simp
 | [a] => simp [List.isPrefixOf]
 | a :: b :: r =>
  have e : List.isPrefixOf [48, 120] (a :: b :: r) = ((48 == a) && (120 == b)) := by simp [List.isPrefixOf]
  rw [e, Bool.and_eq_true, beq_iff_eq, beq_iff_eq]
  constructor
  · rintro ⟨rfl, rfl⟩; exact ⟨by simp, rfl⟩
  ·
   rintro ⟨_, h⟩
   have h' : [a, b] = [48, 120] := h
   injection h' with h1 h2
   injection h2 with h2
   exact ⟨h1.symm, h2.symm⟩
section
open Go.RowKit Go.Sort Go.Lib
theorem grow_below (w : World) (k : Nat) (os : Array Obj) : Below w.heap.size w (grow (w.drewN k) os) := by
 refine ⟨rfl, rfl, rfl, ?_, fun i hi => ?_⟩
 · simp [grow]
 ·
  show (w.heap ++ os)[i]? = w.heap[i]?
  rw [Array.getElem?_append_left hi]
theorem holds_zero0 (w : World) (T : TypeId) (nd : Nat) (hs : nd ≤ 24) : Holds (fun (b : UInt8) => Value.int .u8 (b.toNat : Int)) (w.alloc (.cells zeros24 T)) w.heap.size 0 (Array.replicate nd (0 : UInt8)) := fun j hj => by
 have hj' : j < nd := by simpa using hj
 refine ⟨?_, World.frozen?_alloc_new _ _ _ _⟩
 rw [World.cell?_alloc_new, zeros24_at _ (by omega), getElem!_pos _ j hj]
 simp
theorem fin_pos0 (w : World) (o : Obj) (dk : Array UInt8) (k : Nat) : ∃ os, (putRow (fun (b : UInt8) => Value.int .u8 (b.toNat : Int)) (w.alloc o) w.heap.size 0 dk).drewN k = grow (w.drewN k) os := by
 rw [alloc_eq_grow]
 obtain ⟨os', _, e⟩ := putRow_grow_new (fun (b : UInt8) => Value.int .u8 (b.toNat : Int)) w #[o] w.heap.size 0 dk (Nat.le_refl _)
 exact ⟨os', by rw [e]; rfl⟩
theorem formatUint_any (u : Nat) (hu64 : u < 18446744073709551616) (w : World) (htab : Lib.TabIs Tryz.prog w "internal/strconv.uint64pow10" .u64 Lib.pow10Tab) :
  Calls Tryz.prog 173 #[.int .u64 u, .int .i64 10] w fun e w' => e = .returned (.string ⟨(Lib.decDigits u).toArray⟩) ∧ Below w.heap.size w w' := by
 by_cases hs : u < 100
 ·
  go_enter Tryz.func173, Tryz.ntmps173
  go_wp2_with (go_at_call 227; refine (Tryz.internal_strconv_small u hs _).mono ?_; rintro e w' ⟨rfl, rfl⟩)
  go_ret
  exact ⟨rfl, Below.refl _ _⟩
 ·
  have hu1 : 1 ≤ u := by omega
  have hnd20 : Lib.nDigits u ≤ 20 := by have := Lib.numDigits_eq u hu1 hu64; split at this <;> omega
  have hb3 : Lib.nDigits u ≤ 23 := by omega
  have hal : Tryz.prog.arrayLen 260 = 24 := by simp [Program.arrayLen, Tryz.underlying260]
  have hsl1 : ∀ W, (Instr.sliceAt 260 (.pointer (some ⟨w.heap.size, 0, none⟩)) none (some (.int .i64 (Lib.nDigits u : Int))) none).run Tryz.prog W = .ok (.slice (some ⟨w.heap.size, 0, none⟩) (Lib.nDigits u) 24) W := fun W => by
   rw [run_sliceAt_array_h W 260 ⟨w.heap.size, 0, none⟩ (by simp [Program.arrayLen, Program.elem, Tryz.underlying260]) .i64 (Lib.nDigits u : Int) (by omega) (by rw [hal]; omega)]
   go_simp
  have hH0 := holds_zero0 w 260 (Lib.nDigits u) (by omega)
  have hfmt := Tryz.internal_strconv_formatBase10 w.heap.size 0 24 u (Array.replicate (Lib.nDigits u) 0) (w.alloc (.cells Lib.zeros24 260)) hH0 (by rw [Array.size_replicate]; exact Lib.lt_pow_nDigits u) hu64 (by rw [Array.size_replicate]; omega)
  rw [Array.size_replicate] at hfmt
  have HH0 := hi_ hH0
  clear hH0 hal
  go_enter Tryz.func173, Tryz.ntmps173
  go_wp2_with (first
   | (go_at_call 228; refine (Tryz.internal_strconv_numDigits u hu1 hu64 _ (Lib.tabIs_alloc htab _)).mono ?_; rintro e w' ⟨rfl, rfl⟩))
  go_at_call 229
  refine hfmt.mono ?_
  rintro e w' ⟨rfl, k, v', dk, rfl, hF⟩
  have hcv : (convert 172 9 (.slice (some ⟨w.heap.size, 0, none⟩) (Lib.nDigits u) 24)).run Tryz.prog ((putRow (fun (b : UInt8) => Value.int .u8 (b.toNat : Int)) (w.alloc (.cells Lib.zeros24 260)) w.heap.size 0 dk).drewN k) = .ok (.string ⟨(Lib.decDigits u).toArray⟩) ((putRow (fun (b : UInt8) => Value.int .u8 (b.toNat : Int)) (w.alloc (.cells Lib.zeros24 260)) w.heap.size 0 dk).drewN k) := by
   have h := run_convert_bytes_back (P := Tryz.prog) ((putRow (fun (b : UInt8) => Value.int .u8 (b.toNat : Int)) (w.alloc (.cells Lib.zeros24 260)) w.heap.size 0 dk).drewN k) 172 9 5 ⟨w.heap.size, 0, none⟩ 24 (Lib.decDigits u) Tryz.underlying172 Tryz.underlying5 Tryz.underlying9 (fun j hj => by
    rw [Lib.row_is_numeral hF j hj, Lib.add_plain, World.cell?_drewN]
    exact cell?_putRow (fun (b : UInt8) => Value.int .u8 (b.toNat : Int)) _ w.heap.size 0 _ dk HH0.out (by rw [hF.size, Array.size_replicate]) j (by rw [hF.size]; rw [Lib.decDigits_length] at hj; exact hj))
   rw [Lib.decDigits_length] at h
   exact h
  go_wp2
  go_ret
  obtain ⟨os, eo⟩ := fin_pos0 w (.cells Lib.zeros24 260) dk k
  refine ⟨rfl, ?_⟩
  have := grow_below w k os
  rw [← eo] at this
  exact this
theorem dec_eq : ∀ (k n : Nat), n < 10 ^ k → 0 < k → decD k n = Lib.decDigits n
 | k + 1, n, h, _ => by
  rw [decD, Lib.decDigits]
  by_cases h10 : n < 10
  · rw [if_pos h10, dif_pos h10]; rfl
  ·
   rw [if_neg h10, dif_neg h10]
   rw [Nat.pow_succ] at h
   have hk : 0 < k := by
    rcases Nat.eq_zero_or_pos k with h0 | h0
    · subst h0; simp at h; omega
    · exact h0
   rw [dec_eq k (n / 10) (by omega) hk]
   rfl
theorem fmtUint32_any (v : Nat) (hv : v < 4294967296) (w : World) (htab : Lib.TabIs Tryz.prog w "internal/strconv.uint64pow10" .u64 Lib.pow10Tab) :
  Calls Tryz.prog 46 #[.int .u32 v] w fun e w' => e = .returned (.string ⟨(dec v).toArray⟩) ∧ Below w.heap.size w w' := by
 have HD := hi_ (dec_eq 20 v (by omega) (by omega))
 have HT := hi_ htab
 clear htab
 go_enter Tryz.func46, Tryz.ntmps46
 go_wp2_with (first | (go_at_call 173; refine (formatUint_any v (by omega) _ HT.out).mono ?_; rintro e w1 ⟨rfl, hb⟩) | go_in)
 go_ret
 exact ⟨by rw [dec, HD.out]; rfl, hb⟩
theorem fmtInt_any (n : Int) (h0 : -9223372036854775808 ≤ n) (h1 : n ≤ 9223372036854775807) (w : World) (htab : Lib.TabIs Tryz.prog w "internal/strconv.uint64pow10" .u64 Lib.pow10Tab) :
  Calls Tryz.prog 45 #[.int .i64 n] w fun e w' => e = .returned (.string ⟨(Lib.itoa n).toArray⟩) ∧ Below w.heap.size w w' := by
 have HT := hi_ htab
 clear htab
 go_enter Tryz.func45, Tryz.ntmps45
 go_wp2_with (first | (go_at_call 104; refine (Tryz.strconv_Itoa n h0 h1 _ HT.out).mono ?_; rintro e w1 ⟨rfl, k, os, rfl⟩))
 go_ret
 exact ⟨rfl, grow_below _ _ _⟩
end
abbrev Tab (w : World) : Prop := Lib.TabIs Tryz.prog w "internal/strconv.uint64pow10" .u64 Lib.pow10Tab
theorem Tab.base {W w : World} (h : Tab W) (hb : Below W.heap.size W w) : Tab w := by
 unfold Tab Lib.TabIs World.var? at *
 cases hg : Tryz.prog.globalNamed "internal/strconv.uint64pow10" with
 | none => simp [hg] at h
 | some g =>
  simp only [hg, Option.bind_some] at h ⊢
  have hlt : g < W.heap.size := by
   rcases Nat.lt_or_ge g W.heap.size with h' | h'
   · exact h'
   · rw [Array.getElem?_eq_none h'] at h; simp at h
  rw [hb.block g hlt]
  exact h
theorem itoa_dec (n : Int) (h : 0 ≤ n) (h1 : n ≤ 9223372036854775807) : Lib.itoa n = dec n.toNat := by
 rw [Lib.itoa, if_neg (by omega), dec, dec_eq 20 _ (by omega) (by omega)]
section
open Go.RowKit Go.ChangeShapes Go.WideShapes
def tables : List (String × DataW Unit) := [("math/bits.deBruijn32tab", Rows.laid_math_bits_deBruijn32tab), ("math/bits.deBruijn64tab", Rows.laid_math_bits_deBruijn64tab), ("internal/strconv.uint64pow10", Rows.laid_internal_strconv_uint64pow10), ("unicode/utf8.acceptRanges", Rows.laid_unicode_utf8_acceptRanges), ("unicode/utf8.first", Rows.laid_unicode_utf8_first)]
theorem gPow : Tryz.prog.globalNamed "internal/strconv.uint64pow10" = some 3 := by kernel_rfl
theorem powTab : (Rows.laid_internal_strconv_uint64pow10 : DataW Unit) = Lib.tabData .u64 Lib.pow10Tab := by kernel_rfl
theorem tab_of_laid {W : World} (h : laidMet Tryz.prog tables W) : Tab W := by
 have h2 : laidMet Tryz.prog (("internal/strconv.uint64pow10", Lib.tabData .u64 Lib.pow10Tab) :: [("unicode/utf8.acceptRanges", Rows.laid_unicode_utf8_acceptRanges), ("unicode/utf8.first", Rows.laid_unicode_utf8_first)]) W := by
  rw [← powTab]
  exact laidMet.tail (laidMet.tail h)
 exact Lib.tabIs_of_head (t := 292) (e := 116) (n := 20) gPow (by kernel_rfl) Tryz.underlying292 Tryz.underlying116 (by kernel_rfl) (by kernel_rfl) h2
def litCell : DataW Unit → Value
 | .lit (.int k n) => .int k n
 | _ => undef
def flatCells : DataW Unit → List Value
 | .agg ds => ds.flatMap fun d => match d with
  | .agg es => es.map litCell
  | d => [litCell d]
 | _ => []
def laidObj (d : DataW Unit) : Obj → Obj
 | .cells _ t frozen => .cells (flatCells d).toArray t frozen
 | o => o
noncomputable def laidWorld (os : Os) : World :=
 let w0 := World.holding Tryz.prog os ⟨#[], #[], []⟩
 { w0 with heap := ((((w0.heap.modify 3 (laidObj Rows.laid_internal_strconv_uint64pow10)).modify 4 (laidObj Rows.laid_math_bits_deBruijn32tab)).modify 5 (laidObj Rows.laid_math_bits_deBruijn64tab)).modify
  2 (laidObj Rows.laid_unicode_utf8_acceptRanges)).modify 1 (laidObj Rows.laid_unicode_utf8_first) }
theorem laidWorld_met (os : Os) (args : Array Value) : laidMet Tryz.prog tables ((laidWorld os).forCall (fun _ _ => 0) ⟨#[], args, []⟩).memory :=
 laidMet_of_run' 8 (by kernel_rfl) (by kernel_rfl)
theorem wants_none (f : TypeId → Bool) {ps : Array TypeId} (h : (ps.all fun t => !f t) = true) (j : Nat) (t : TypeId) (ht : ps[j]? = some t) : f t = false := by
 obtain ⟨hj, rfl⟩ := Array.getElem?_eq_some_iff.1 ht
 have := Array.all_eq_true.1 h j hj
 simpa using this
theorem maxLen_int {W : World} (h : W.ShapedOpen Tryz.prog) : ∃ m, W.cell? ⟨0, 0, none⟩ = some (.int .i64 m) := by
 have h0 : ((begin Tryz.prog (fun _ _ => 0) default).world.heap[0]?).bind Obj.row? = some (#[.int .i64 0], 3) := by kernel_rfl
 obtain ⟨cs, hh, hs, hr⟩ := h.1 0 _ _ (by decide +kernel) h0
 obtain ⟨ts, hts, _, hall⟩ := hr (by kernel_rfl)
 rw [show Tryz.prog.cellTypes Tryz.prog.depth 3 = some [3] by kernel_rfl] at hts
 cases hts
 have h1 : 0 < cs.size := Nat.lt_of_lt_of_eq Nat.one_pos hs.symm
 obtain ⟨u, hu', hok⟩ := hall 0 cs[0] (by simp [h1])
 have : u = 3 := by simpa using hu'.symm
 subst this
 have hcell : W.cell? ⟨0, 0, none⟩ = some cs[0] := by simp [World.cell?, hh, h1]
 rw [hcell]
 unfold Cell.ok at hok
 rw [Tryz.underlying3] at hok
 cases hv : cs[0] <;> rw [hv] at hok
 all_goals first | (obtain ⟨rfl, _⟩ := hok; exact ⟨_, rfl⟩) | exact absurd hok (by simp)
end
section
open Go.RowKit Go.WideShapes Go.ChangeShapes
theorem list_of {α : Type} {Q : Nat → α → Prop} (n : Nat) (h : ∀ i, i < n → ∃ d, Q i d) : ∃ l : List α, l.length = n ∧ ∀ i (hi : i < l.length), Q i l[i] := by
 refine ⟨List.ofFn (fun i : Fin n => Classical.choose (h i.1 i.2)), by simp, fun i hi => ?_⟩
 rw [List.getElem_ofFn]
 exact Classical.choose_spec (h i (by simpa using hi))
theorem cut_get {cs ys : List Value} {o k : Nat} (h : (cs.drop o).take k = ys) : ∀ j, j < ys.length → cs[o + j]? = ys[j]? := by
 intro j hj
 have hk : j < k := by
  have := congrArg List.length h
  simp at this
  omega
 rw [← h, List.getElem?_take_of_lt hk, List.getElem?_drop]
section
variable {H : Type} (enc : TypeId × Value → H) (P : Program) (w : World) (base : Nat) (held : Bool)
def RdB (N : Nat) (t : TypeId) {α : Type} (cells : α → List Value) (Ok : α → Prop) : Prop :=
 ∀ m, m < N → ∀ (cs : List Value) (x : DataW H × List MemPlace), DataW.trod enc P w base (fun _ => true) held m t cs = some x → (∀ n ∈ x.1.weights P t, n ≤ reachBytes) → ∃ d : α, cs = cells d ∧ Ok d
end
section
variable {H : Type} {enc : TypeId × Value → H} {P : Program} {w : World} {base : Nat} {held : Bool} {N : Nat}
theorem RdB.mono {t : TypeId} {α : Type} {cells : α → List Value} {Ok : α → Prop} {M : Nat} (h : RdB enc P w base held N t cells Ok) (hM : M ≤ N) : RdB enc P w base held M t cells Ok :=
 fun m hm cs x hx => h m (by omega) cs x hx
theorem rd_int {t : TypeId} {k : IntKind} (ht : P.underlying t = some (.int k)) : RdB enc P w base held N t (fun z : Int => [.int k z]) (fun z => (Lit.int k z).wf = true) := by
 intro m _ cs x h _
 obtain ⟨n, e, _, hw⟩ := DataW.trod_int ht h
 exact ⟨n, e, hw⟩
theorem rd_str {t : TypeId} (ht : P.underlying t = some .string) : RdB enc P w base held N t (fun s : ByteArray => [.string s]) (fun s => s.size ≤ maxLen) := by
 intro m _ cs x h _
 obtain ⟨s, e, _, hw⟩ := DataW.trod_string ht h
 exact ⟨s, e, hw⟩
theorem rd_bool {t : TypeId} (ht : P.underlying t = some .bool) : RdB enc P w base held N t (fun b : Bool => [.bool b]) (fun _ => True) := by
 intro m _ cs x h _
 obtain ⟨b, e, _⟩ := DataW.trod_bool ht h
 exact ⟨b, e, trivial⟩
theorem mem_weightsAll {e : TypeId} {d : DataW H} : ∀ {l : List (DataW H)}, d ∈ l → ∀ {n : Nat}, n ∈ d.weights P e → n ∈ DataW.weightsAll P e l
 | x :: l, hd, n, hn => by
  simp only [DataW.weightsAll, List.mem_append]
  rcases List.mem_cons.1 hd with rfl | h
  · exact .inl hn
  · exact .inr (mem_weightsAll h hn)
structure ListOk (w : World) (k kb : Nat) {α : Type} (cells : α → List Value) (Ok : α → Prop) (y : L α) : Prop where
 lok : LOk w k cells y
 all : ∀ d ∈ y.l, Ok d
 nil : y.A = none → y.c = 0
 le : y.l.length ≤ y.c
 cap : y.c ≤ maxLen
 bytes : y.c * kb ≤ reachBytes
theorem rd_list {t e : TypeId} {k kb : Nat} {α : Type} {cells : α → List Value} {Ok : α → Prop} (ht : P.underlying t = some (.slice e)) (he : P.cellsOf e = k) (hbe : P.bytesOf e = kb) (hk0 : 0 < k) (hk : ∀ d, (cells d).length = k)
  (hR : RdB enc P w base held N e cells Ok) : RdB enc P w base held (N + 1) t (fun y : L α => [y.v]) (ListOk w k kb cells Ok) := by
 intro m hm cs x h hw
 rcases DataW.trod_slice ht h with ⟨rfl, _⟩ | ⟨a, len, cap, elems, rest, n, e1, rfl, hx, _, hlc, hcm, hel, hget, hrest, _⟩
 · exact ⟨⟨[], none, 0⟩, rfl, ⟨⟨by simp, .inl rfl⟩, fun d hd => (by cases hd), fun _ => rfl, Nat.le_refl _, Nat.zero_le _, by simp⟩⟩
 ·
  rw [he] at hget
  subst hx
  simp only [DataW.weights, ht, List.mem_cons, List.mem_append, hbe, List.length_map] at hw
  have hsz : cap * kb ≤ reachBytes := by
   have := hw _ (.inl rfl)
   rwa [(hrest rfl).1, hel, show len + (cap - len) = cap by omega] at this
  have hev : ∀ i, i < len → ∃ d, w.cells? base (a.add (i * k)) k = some (cells d) ∧ Ok d := by
   intro i hi
   have h1 := hget i hi
   obtain ⟨y, hy⟩ : ∃ y, elems[i]? = some y := ⟨elems[i], List.getElem?_eq_getElem (by omega)⟩
   rw [hy, Option.bind_eq_some_iff] at h1
   obtain ⟨cs', hc, hr⟩ := h1
   obtain ⟨d, rfl, hd⟩ := hR n (by omega) cs' y hr (fun n' hn' => hw n' (.inr (.inl (mem_weightsAll (List.mem_map_of_mem (List.mem_of_getElem? hy)) hn'))))
   exact ⟨d, hc, hd⟩
  obtain ⟨l, hl, hq⟩ := list_of len hev
  refine ⟨⟨l, some a, cap⟩, by simp only [L.v]; rw [hl], ⟨⟨by simp only; omega, ?_⟩, fun d hd => ?_, fun h0 => (by cases h0), by simp only; omega, hcm, hsz⟩⟩
  ·
   by_cases hl0 : l = []
   · exact .inl hl0
   ·
    obtain ⟨g, o, spot⟩ := a
    have hlen : 0 < l.length := List.length_pos_iff.2 hl0
    have hsp : spot = none := by
     obtain ⟨_, _, h2⟩ := World.cells?_some (hq 0 hlen).1
     have h3 := h2 0 hk0
     obtain ⟨c0, hc0⟩ : ∃ c0, (cells l[0])[0]? = some c0 := ⟨(cells l[0])[0]'(by rw [hk]; exact hk0), List.getElem?_eq_getElem _⟩
     rw [hc0] at h3
     simpa [Addr.add] using World.cell?_spot h3
    subst hsp
    have hall : ∀ i (hi : i < l.length) j, j < k → w.cell? ⟨g, o + i * k + j, none⟩ = (cells l[i])[j]? := by
     intro i hi j hj
     obtain ⟨_, _, h2⟩ := World.cells?_some (hq i hi).1
     have h3 := h2 j hj
     rwa [add_plain, add_plain] at h3
    refine .inr ⟨g, o, rfl, ?_, hall⟩
    have h3 := hall 0 hlen 0 hk0
    rw [List.getElem?_eq_getElem (by rw [hk]; exact hk0)] at h3
    exact World.block_lt_of_cell? w _ h3
  ·
   obtain ⟨i, hi, rfl⟩ := List.mem_iff_getElem.1 hd
   exact (hq i hi).2
theorem rd_field {ft : TypeId} {fs : Array Field} {α : Type} {cells : α → List Value} {Ok : α → Prop} {xs : List (DataW H × List MemPlace)} {n : Nat} {cs : List Value} (i : Nat) (f : Field) (o k : Nat)
  (hxs : ∀ (i : Nat) (f : Field), fs[i]? = some f → DataW.trod enc P w base (fun _ => true) held n f.type ((cs.drop f.offset).take (P.cellsOf f.type)) = xs[i]?) (hlen : xs.length = fs.size) (hw : ∀ m ∈ DataW.weightsEach P (fs.toList.map (·.type)) (xs.map (·.1)), m ≤ reachBytes)
  (hf : fs[i]? = some f) (hft : f.type = ft) (ho : f.offset = o) (hk : P.cellsOf ft = k) (hR : RdB enc P w base held N ft cells Ok) (hn : n < N) :
  ∃ d : α, (cs.drop o).take k = cells d ∧ Ok d := by
 subst hft ho hk
 have hi : i < xs.length := by rw [hlen]; exact (Array.getElem?_eq_some_iff.1 hf).1
 have h1 := hxs i f hf
 rw [List.getElem?_eq_getElem hi] at h1
 refine hR n hn _ _ h1 (fun m hm => hw m (DataW.weights_mem_each (j := i) ?_ ?_ m hm))
 · simp [hf]
 · simp [hi]
theorem arg_struct {t : TypeId} {fs : Array Field} {α : Type} {cells : α → List Value} {Ok : α → Prop} (ht : P.underlying t = some (.struct fs)) (hR : ∀ N, RdB enc P w base held N t cells Ok)
  {v : Value} {d : DataW H} {ps : List MemPlace} {r : Reach} {b : Nat} (hv : Value.okWide P w r b t v) (h : DataW.Trod enc P w base (fun _ => true) held t v d ps) (hw : ∀ m ∈ d.weights P t, m ≤ reachBytes) : ∃ y : α, v = .agg (cells y).toArray ∧ Ok y := by
 obtain ⟨cs, rfl, _⟩ := okWide_struct ht hv
 obtain ⟨n, hn⟩ := h
 obtain ⟨y, e, hy⟩ := hR (n + 1) n (Nat.lt_succ_self n) _ _ hn hw
 refine ⟨y, ?_, hy⟩
 have e' : cs.toList = cells y := by simpa [Value.cells] using e
 rw [← e']
theorem trodAll_carry {W W' : World} {sp : Nat → Bool} {b : Nat} {hd : Bool} : ∀ {ts : List TypeId} {vs : List Value} {ds : List (DataW H)} {ps : List MemPlace}, DataW.TrodAll enc P W b sp hd ts vs ds ps → (∀ p ∈ ps, W.sameAt W' p) →
  DataW.TrodAll enc P W' b sp hd ts vs ds ps
 | [], [], [], _, h, _ => h
 | _ :: _, _ :: _, _ :: _, _, ⟨p, q, ⟨n, hn⟩, h2, e⟩, hs => ⟨p, q, ⟨n, DataW.trod_carry n _ _ _ hn (fun x hx => hs x (by rw [e]; exact List.mem_append_left _ hx))⟩, trodAll_carry h2 (fun x hx => hs x (by rw [e]; exact List.mem_append_right _ hx)), e⟩
theorem args_again (hl : laidOutB P = true) (hm : mapsRowed P = true) (hz : ((List.range P.types.size).all fun t => match P.underlying t with | some (.slice e) => decide (0 < P.cellsOf e) | _ => true) = true)
  {W W' : World} {ts : List TypeId} {vs : List Value} {ds : List (DataW H)} {ps : List MemPlace} (hT : ∀ t ∈ ts, t < P.types.size) (h : DataW.TrodAll enc P W 0 (fun _ => true) true ts vs ds ps) (hb : Below W.heap.size W W')
  (sp : Nat → Bool) (hs : ∀ p ∈ ps, sp p.block = true) : DataW.TrodAll enc P W' 0 sp true ts vs ds ps :=
 trodAll_carry (DataW.TrodAll.respare (kids_rows hl hm) (slices_full_of P hz) hT h hs) (fun p hp => hb.same (DataW.TrodAll.lt h p hp))
end
end
theorem flat_get {α : Type} (cells : α → List Value) (k : Nat) (hk : ∀ u, (cells u).length = k) : ∀ (l : List α) (i : Nat) (hi : i < l.length) (j : Nat), j < k → (l.flatMap cells)[i * k + j]? = (cells l[i])[j]?
 | [], i, hi, _, _ => by simp at hi
 | x :: l, 0, _, j, hj => by
  rw [List.flatMap_cons, List.getElem?_append_left (by rw [hk]; omega), Nat.zero_mul, Nat.zero_add]; rfl
 | x :: l, i + 1, hi, j, hj => by
  rw [List.flatMap_cons, List.getElem?_append_right (by rw [hk, Nat.succ_mul]; omega), hk, Nat.succ_mul, show i * k + k + j - k = i * k + j by omega,
   flat_get cells k hk l i (by simpa using hi) j hj]
  rfl
theorem flat_len {α : Type} (cells : α → List Value) (k : Nat) (hk : ∀ u, (cells u).length = k) : ∀ (l : List α), (l.flatMap cells).length = l.length * k
 | [] => by simp
 | x :: l => by rw [List.flatMap_cons, List.length_append, hk, flat_len cells k hk l, List.length_cons, Nat.succ_mul]; omega
theorem flat_of {α : Type} (cells : α → List Value) (k : Nat) (hk : ∀ u, (cells u).length = k) (l : List α) (m : Nat) (u : Value) (h : (l.flatMap cells)[m]? = some u) : ∃ i, ∃ hi : i < l.length, ∃ j, j < k ∧ m = i * k + j ∧ (cells l[i])[j]? = some u := by
 have hm : m < l.length * k := by rw [← flat_len cells k hk]; exact (List.getElem?_eq_some_iff.1 h).1
 have hk0 : 0 < k := by rcases Nat.eq_zero_or_pos k with h0 | h0; (· rw [h0] at hm; omega); exact h0
 have hi : m / k < l.length := (Nat.div_lt_iff_lt_mul hk0).2 hm
 have hj : m % k < k := Nat.mod_lt _ hk0
 have e : m = m / k * k + m % k := by rw [Nat.mul_comm]; exact (Nat.div_add_mod m k).symm
 refine ⟨m / k, hi, m % k, hj, e, ?_⟩
 rw [← flat_get cells k hk l (m / k) hi (m % k) hj, ← e, h]
theorem wpList_append_L {P : Program} {w : World} {ops : Array Oper} {rest : List Oper} {o : Oper} {a : Act} {Q : Exit → Act → World → Prop} (hgd : o.guard = none) (s x : Operand) (t : TypeId)
  (ho : o.op = .call { callee := .builtin .append, args := #[s, x], argTypes := #[t, t] })
  (base : Nat) (e : TypeId) (i : TypeInfo) (z : Value) (size bytes : Nat) (ht : P.underlying t = some (.slice e)) (hi : P.info? e = some i) (hz : i.zero = some z)
  (hsize : i.size = size) (hby : i.bytes = bytes) (hzs : z.cells.size = size) (hsz : 0 < size)
  (v : Value) (n : Nat) (xs : List Value) (hs : a.eval s = v) (hown : w.ownsRow base e size v n xs)
  {α : Type} {cells : α → List Value} (y : L α) (hx : a.eval x = y.v) (hy : LOk w size cells y) (hnil : y.A = none → y.c = 0) (hk : ∀ u, (cells u).length = size) (h1 : ∀ u, ∀ c ∈ cells u, c.oneCell' = true)
  (h63 : n + y.l.length ≤ maxLen) (hbytes : (n + y.l.length) * bytes ≤ 140737488355328) (hbase : base ≤ w.heap.size)
  (h : ∀ v' w', w'.ownsRow base e size v' (n + y.l.length) (xs ++ y.l.flatMap cells) → w.grownBy w' v.ownBlock → wpList P ops Q rest (a.put o.dst v') w') : wpList P ops Q (o :: rest) a w := by
 obtain ⟨l, A, c⟩ := y
 cases A with
 | none =>
  have hl : l = [] := by
   rcases hy.2 with h0 | ⟨g, o, e, _⟩
   · exact h0
   · cases e
  subst hl
  obtain rfl : c = 0 := hnil rfl
  refine wpList_append_own_none hgd s x t ho base e i size ht hi v n xs hs hown hx (h v w ?_ ⟨rfl, rfl, rfl, Nat.le_refl _, fun _ _ _ => rfl⟩)
  simpa using hown
 | some ad =>
  refine wpList_append_own w hgd s x t ho base e i z size bytes ht hi hz hsize hby hzs hsz v n xs hs hown ad l.length c (l.flatMap cells) hx (flat_len cells size hk l) (fun m u hu => ?_) (fun u hu => ?_) h63 hbytes hbase (fun v' w' h2 h3 _ => h v' w' h2 h3)
  ·
   obtain ⟨i', hi', j, hj, rfl, hc⟩ := flat_of cells size hk l m u hu
   obtain ⟨g, o, e', _, hcc⟩ := hy.at (x := ⟨l, some ad, c⟩) hi'
   simp only [Option.some.injEq] at e'
   rw [e', Addr.add_lit, ← Nat.add_assoc, hcc j hj, hc]
  ·
   obtain ⟨r, _, hr⟩ := List.mem_flatMap.1 hu
   exact h1 r u hr
theorem own_list {w : World} {base : Nat} {e : TypeId} {size : Nat} {v : Value} {α : Type} {cells : α → List Value} {l : List α} (hk : ∀ u, (cells u).length = size) (h : w.ownsRow base e size v l.length (l.flatMap cells)) :
  ∃ A c, v = .slice A l.length c ∧ l.length ≤ c ∧ LOk w size cells ⟨l, A, c⟩ ∧ (A = none → c = 0) ∧ (∀ ad, A = some ad → base ≤ ad.block ∧ ad.off = 0 ∧ ad.spot = none) := by
 have hc := @World.ownsRow.cells w base e size v l.length (l.flatMap cells) h
 rcases h.2 with ⟨rfl, h0⟩ | ⟨g, cap, cur, rfl, hb, hg, hle, hcm, hcs, htk⟩
 ·
  have : l = [] := List.eq_nil_of_length_eq_zero h0
  subst this
  exact ⟨none, 0, rfl, Nat.le_refl _, ⟨Nat.zero_le _, .inl rfl⟩, fun _ => rfl, fun ad e => by cases e⟩
 ·
  refine ⟨some ⟨g, 0, none⟩, cap, rfl, hle, ⟨Nat.le_trans hle hcm, .inr ⟨g, 0, rfl, ?_, fun i hi j hj => ?_⟩⟩, fun e => (by cases e), fun ad e => (by cases e; exact ⟨hb, rfl, rfl⟩)⟩
  · exact (Array.getElem?_eq_some_iff.1 hg).1
  ·
   have hi2 : i * size + j < (l.flatMap cells).length := by
    rw [flat_len cells size hk]
    have : (i + 1) * size ≤ l.length * size := Nat.mul_le_mul_right _ hi
    rw [Nat.add_mul] at this; omega
   have := hc rfl (i * size + j) _ (List.getElem?_eq_getElem hi2)
   rw [Addr.add_lit] at this
   rw [Nat.add_assoc, this, ← flat_get cells size hk l i hi j hj, List.getElem?_eq_getElem hi2]
theorem ownsRow_below {w w' : World} {base : Nat} {e : TypeId} {size : Nat} {v : Value} {n : Nat} {xs : List Value} (h : w.ownsRow base e size v n xs) (hb : Below w.heap.size w w') : w'.ownsRow base e size v n xs := by
 refine ⟨h.1, ?_⟩
 rcases h.2 with h0 | ⟨g, cap, cur, rfl, hbg, hg, h1, h2, h3, h4⟩
 · exact .inl h0
 · exact .inr ⟨g, cap, cur, rfl, hbg, (hb.block g (Array.getElem?_eq_some_iff.1 hg).1).trans hg, h1, h2, h3, h4⟩
theorem grown_below {w w' : World} {base : Nat} {e : TypeId} {size : Nat} {v : Value} {n : Nat} {xs : List Value} (h : w.ownsRow base e size v n xs) (hg : w.grownBy w' v.ownBlock) (hb : base ≤ w.heap.size) : Below base w w' := by
 refine (Below.refl base w).grown hg hb (fun k hk => ?_)
 rcases h.2 with ⟨rfl, _⟩ | ⟨g, cap, cur, rfl, hbg, _⟩
 · cases hk
 · simp only [Value.ownBlock, Option.some.injEq] at hk; omega
def widthV (d : Option Int) : Value := .tuple #[.int .i64 (d.getD 0), .bool d.isSome]
theorem declM_some {p : ProgD} {h f : Int} {y : FieldD} (hd : declF p h f = some y) : declM p h f = some y.width := by rw [declM, hd]; rfl
theorem declM_none {p : ProgD} {h f : Int} (hd : declF p h f = none) : declM p h f = none := by rw [declM, hd]; rfl
theorem awidth_any (p : ProgD) (h f : Int) (w : World) (o : ProgOk w p) :
  Calls Tryz.prog 215 #[.agg (progCells p), .agg #[.int .i64 h, .int .i64 f]] w fun e w' => e = .returned (widthV (declM p h f)) ∧ Below w.heap.size w w' := by
 have HO := hi_ o
 clear o
 have hca := @World.cell?_alloc_some
 rcases fieldsOf_cases p h with ⟨rfl, hx⟩ | ⟨h1, h2, hx⟩ | ⟨k, hk, rfl, hx⟩
 ·
  rcases declF_cases hx f with ⟨h3, hd⟩ | ⟨j, hj, rfl, hd⟩
  ·
   have HR := hi_ (declM_none hd)
   clear hd hx
   rcases h3 with h3 | h3
   all_goals
    go_enter Tryz.func215, Tryz.ntmps215
    go_wp2
    go_ret2
    exact ⟨by rw [HR.out]; rfl, below2 _ _ _⟩
  ·
   have HR := hi_ (declM_some hd)
   obtain ⟨g, of, hA, d0, d1⟩ := FieldD.at HO.out.metadata hj
   simp only [progCells, hA]
   clear hd hx hA
   generalize p.metadata.l[j] = y at *
   go_enter Tryz.func215, Tryz.ntmps215
   go_wp2
   go_ret2
   exact ⟨by rw [HR.out]; rfl, below2 _ _ _⟩
 ·
  have HR := hi_ (declM_none (declF_none hx f))
  have h1' : (h == -1) = false := bf_ h1
  clear hx
  rcases h2 with h2 | h2
  all_goals
   go_enter Tryz.func215, Tryz.ntmps215
   go_wp2
   go_ret2
   exact ⟨by rw [HR.out]; rfl, below2 _ _ _⟩
 ·
  obtain ⟨g, of, hA, d0, d1⟩ := HeaderD.at HO.out.headers hk
  have HF := hi_ (HO.out.hdr _ (List.getElem_mem hk)).fields
  have h1' : ((k : Int) == -1) = false := bf_ (by omega)
  simp only [progCells, hA]
  clear hA
  generalize p.headers.l[k] = x at *
  obtain ⟨xn, ⟨fl, fA, fc⟩⟩ := x
  simp only [L.v] at d1
  rcases declF_cases hx f with ⟨h3, hd⟩ | ⟨j, hj, rfl, hd⟩
  ·
   have HR := hi_ (declM_none hd)
   simp only at h3
   clear hd hx
   rcases h3 with h3 | h3
   all_goals
    go_enter Tryz.func215, Tryz.ntmps215
    go_wp2
    go_ret2
    exact ⟨by rw [HR.out]; rfl, below2 _ _ _⟩
  ·
   have HR := hi_ (declM_some hd)
   obtain ⟨g2, of2, hA, e0, e1⟩ := FieldD.at HF.out hj
   simp only at hA hj e0 e1
   subst hA
   clear hd hx
   generalize fl[j] = y at *
   go_enter Tryz.func215, Tryz.ntmps215
   go_wp2
   go_ret2
   exact ⟨by rw [HR.out]; rfl, below2 _ _ _⟩
theorem avalue_any (p : ProgD) (ps : L FieldD) (x : L NodeD) (n : Int) (w : World) (o : ProgOk w p) (hps : LOk w 2 FieldD.cells ps) (hx : LOk w 3 NodeD.cells x) :
  Calls Tryz.prog 216 #[.agg (scopeCells p ps), .slice x.A x.l.length x.c, .int .i64 n] w fun e w' => e = .returned (.int .i64 (sizedM p ps.l x.l n)) ∧ Below w.heap.size w w' := by
 have HO := hi_ o
 have HP := hi_ hps
 have HX := hi_ hx
 clear o hps hx
 obtain ⟨W, hW, hw, HB, hp⟩ := box1 w (scopeCells p ps) 219
 have HW := hi_ hw
 clear hw
 have HR := hi_ (sizedM.eq_1 p ps.l x.l n)
 go_enter Tryz.func216, Tryz.ntmps216
 go_upto_region 1 with fail
 rw [← hW]
 clear hW
 go_wp2_with fail
 refine (exprCheck_any p ps x _ (HO.out.below (below_step HW.out (by first | exact HB | exact ba1 HB | exact ba2 HB | exact ba3 HB))) (HP.out.below (below_step HW.out (by first | exact HB | exact ba1 HB | exact ba2 HB | exact ba3 HB)) (Nat.le_refl _)) (HX.out.below (below_step HW.out (by first | exact HB | exact ba1 HB | exact ba2 HB | exact ba3 HB)) (Nat.le_refl _))).mono ?_
 rintro e w1 ⟨rfl, hbN⟩
 replace HB := below_step (by first | exact HB | exact ba1 HB | exact ba2 HB | exact ba3 HB) hbN
 clear hbN
 generalize exprM p ps.l x.l = r at *
 obtain ⟨a, c⟩ := r
 simp only at HR
 by_cases k1 : c = 0
 ·
  subst k1
  by_cases k2 : a = n
  ·
   subst k2
   replace HR : Hid (sizedM p ps.l x.l a = 0) := hi_ (by rw [HR.out]; simp)
   go_wp2
   go_ret
   exact ⟨by rw [HR.out]; rfl, below_step HW.out HB⟩
  ·
   have k2' : (a == n) = false := bf_ k2
   replace HR : Hid (sizedM p ps.l x.l n = 10) := hi_ (by rw [HR.out]; simp [k2])
   go_wp2
   go_ret
   exact ⟨by rw [HR.out]; rfl, below_step HW.out HB⟩
 ·
  have k1' : (c == 0) = false := bf_ k1
  replace HR : Hid (sizedM p ps.l x.l n = c) := hi_ (by rw [HR.out]; simp [k1])
  go_wp2
  go_ret
  exact ⟨by rw [HR.out]; rfl, below_step HW.out HB⟩
theorem sameName_any (g : Nat) (nf nm : ByteArray) (n : Int) (w : World) (h : w.cell? ⟨g, 0, none⟩ = some (.string nm)) :
  Calls Tryz.prog 214 #[.agg #[.string nf, .int .i64 n], .pointer (some ⟨g, 0, none⟩)] w fun e w' => e = .returned (.bool (nf.toList == nm.toList)) ∧ Below w.heap.size w w' := by
 have hca := @World.cell?_alloc_some
 go_enter Tryz.func214, Tryz.ntmps214
 go_wp2
 go_ret
 exact ⟨rfl, below1 _ _⟩
theorem indexFunc_any (x : L FieldD) (k c g : Nat) (nm : ByteArray) (w : World) (hk : k ≤ x.l.length) (hx : LOk w 2 FieldD.cells x) (h : w.cell? ⟨g, 0, none⟩ = some (.string nm)) :
  Calls Tryz.prog 252 #[.slice x.A k c, .func (.func 214) #[] #[.pointer (some ⟨g, 0, none⟩)]] w fun e w' =>
   ∃ n : Int, e = .returned (.int .i64 n) ∧ decide (0 ≤ n) = Lib.containsS ((x.l.map FieldD.name).take k) nm ∧ Below w.heap.size w w' := by
 have HX := hi_ hx
 have hm := hx.1
 unfold maxLen at hm
 have hq : ∀ w', Below w.heap.size w w' → w'.cell? ⟨g, 0, none⟩ = some (.string nm) := fun w' hb => below_cell hb h
 have hcl : Hid (∀ n : Int, 0 ≤ n ∧ (∃ j, ∃ hj : j < x.l.length, j < k ∧ x.l[j].name = nm) → decide (0 ≤ n) = Lib.containsS ((x.l.map FieldD.name).take k) nm) := hi_ (by
  rintro n ⟨h0, j, hj, hjk, he⟩
  rw [decide_eq_true h0, eq_comm, Lib.containsS_iff, List.mem_take_iff_getElem]
  exact ⟨j, by simp; omega, by simp [he]⟩)
 have hcn : Hid ((∀ j (hj : j < x.l.length), j < k → x.l[j].name ≠ nm) → false = Lib.containsS ((x.l.map FieldD.name).take k) nm) := hi_ (by
  intro hn
  rw [eq_comm, Bool.eq_false_iff, Ne, Lib.containsS_iff, List.mem_take_iff_getElem]
  rintro ⟨j, hj, he⟩
  simp at hj he
  exact hn j (by omega) (by omega) he)
 clear hx h
 go_enter Tryz.func252, Tryz.ntmps252
 go_wp2
 go_loopw [5, 8] (fun _ iv wr => ∃ j : Nat, j ≤ k ∧ iv = .int .i64 j ∧ (∀ t (ht : t < x.l.length), t < j → x.l[t].name ≠ nm) ∧ Below w.heap.size w wr) (fun _ i _ => k - (intOf i).toNat)
 case atStart => exact ⟨0, Nat.zero_le _, rfl, fun t _ h => absurd h (Nat.not_lt_zero _), Below.refl _ _⟩
 case round =>
  obtain ⟨j, hj, rfl, hpre, hbel⟩ := hrel
  have HPre := hi_ hpre
  clear hpre
  by_cases hlt : j < k
  ·
   obtain ⟨g2, of, hA, d0, d1⟩ := FieldD.at (HX.out.below hbel (Nat.le_refl _)) (show j < x.l.length by omega)
   simp only [hA]
   have hcell := hq wr hbel
   by_cases hy : x.l[j].name = nm
   ·
    have HC := hi_ (hcl.out j ⟨by omega, j, by omega, hlt, hy⟩)
    have hy' := toList_true hy
    clear hy
    generalize x.l[j] = y at *
    go_wp2_with fail
    refine (sameName_any g y.name nm y.width _ hcell).mono ?_
    rintro e w1 ⟨rfl, hb1⟩
    rw [hy']
    go_wp2
    refine bodyPost_ret (v := .int .i64 (j : Int)) (by simp [results, Tryz.results252, go_sem]) rfl ⟨(j : Int), rfl, HC.out, below_step hbel hb1⟩
   ·
    have hy' := toList_false hy
    have HN : Hid (∀ t (ht : t < x.l.length), t < j + 1 → x.l[t].name ≠ nm) := hi_ (fun t ht h => by
     rcases Nat.lt_succ_iff_lt_or_eq.1 h with h | rfl
     · exact HPre.out t ht h
     · exact hy)
    clear hy
    generalize x.l[j] = y at *
    go_wp2_with fail
    refine (sameName_any g y.name nm y.width _ hcell).mono ?_
    rintro e w1 ⟨rfl, hb1⟩
    rw [hy']
    have HB := hi_ (below_step hbel hb1)
    go_wp2
    go_roundw
    case rel => exact ⟨j + 1, by omega, by go_num, HN.out, HB.out⟩
    case measure => simp [intOf]; omega
  ·
   have HC := hi_ (hcn.out (fun t ht h => HPre.out t ht (by omega)))
   go_wp2
   refine bodyPost_ret (v := .int .i64 (-1)) (by simp [results, Tryz.results252, go_sem]) rfl ⟨-1, rfl, HC.out, hbel⟩
theorem containsFunc_any (x : L FieldD) (k c g : Nat) (nm : ByteArray) (w : World) (hk : k ≤ x.l.length) (hx : LOk w 2 FieldD.cells x) (h : w.cell? ⟨g, 0, none⟩ = some (.string nm)) :
  Calls Tryz.prog 213 #[.slice x.A k c, .func (.func 214) #[] #[.pointer (some ⟨g, 0, none⟩)]] w fun e w' =>
   e = .returned (.bool (Lib.containsS ((x.l.map FieldD.name).take k) nm)) ∧ Below w.heap.size w w' := by
 go_enter Tryz.func213, Tryz.ntmps213
 go_wp2_with fail
 refine (indexFunc_any x k c g nm _ hk hx h).mono ?_
 rintro e w1 ⟨n, rfl, hn, hb1⟩
 have HN := hi_ hn
 have HB := hi_ hb1
 clear hn hb1
 go_wp2
 all_goals
  go_ret
  exact ⟨ret_bool HN.out, HB.out⟩
theorem fldM_at (l : List FieldD) (i : Nat) (h : i < l.length) : fldM l i = if ident l[i].name = false then some 6 else if okW l[i].width = false then some 10 else if dupB (l.map FieldD.name) i = true then some 7 else none := by
 rw [fldM, List.getElem?_eq_getElem h]
theorem dup_at (l : List FieldD) (i : Nat) (h : i < l.length) : Lib.containsS ((l.map FieldD.name).take i) l[i].name = dupB (l.map FieldD.name) i := by
 rw [dupB]; congr 1; simp [h]
theorem firstE_step {α : Type} {f : Nat → Option α} {k : Nat} (h : ∀ j, j < k → f j = none) (hk : f k = none) : ∀ j, j < k + 1 → f j = none := by
 intro j hj
 rcases Nat.lt_succ_iff_lt_or_eq.1 hj with h1 | rfl
 · exact h j h1
 · exact hk
theorem declaration_any (a : ActD) (w : World) (o : ActOk w a) (hc : a.params.l.length ≤ a.params.c) :
  Calls Tryz.prog 155 #[.agg #[.string a.name, .slice a.params.A a.params.l.length a.params.c, .slice a.body.A a.body.l.length a.body.c]] w fun e w' => e = .returned (.int .i64 (declarM a)) ∧ Below w.heap.size w w' := by
 have HS : Hid (a.name.size ≤ maxLen) := hi_ o.name
 have HP := hi_ o.params
 have HN : Hid (∀ f ∈ a.params.l, f.name.size ≤ maxLen) := hi_ o.pnames
 obtain ⟨W, hW, hw, HB, hp⟩ := box1 w #[.string a.name, .slice a.params.A a.params.l.length a.params.c, .slice a.body.A a.body.l.length a.body.c] 93
 have HW := hi_ hw
 clear hw o
 have HR := hi_ (declarM.eq_1 a)
 have hmf : ∀ (fn : Fn) (first cap : Array Value) (w : World), (Instr.makeFunc fn first cap).run Tryz.prog w = .ok (.func fn first cap) w := fun _ _ _ _ => rfl
 go_enter Tryz.func155, Tryz.ntmps155
 go_upto_region 1 with fail
 rw [← hW]
 clear hW
 go_wp2_with fail
 refine (isIdent_any a.name _ HS.out).mono ?_
 rintro e w' ⟨rfl, rfl⟩
 cases h1 : identM a.name.data.toList
 ·
  replace HR := tr_ HR (if_pos (show ident a.name = false from h1))
  go_wp2
  go_ret
  exact ⟨by rw [HR.out]; rfl, below_step HW.out HB⟩
 replace HR := tr_ HR (if_neg (show ¬ ident a.name = false by rw [show ident a.name = true from h1]; simp))
 clear h1
 by_cases h2 : 4 < a.params.l.length ∨ 12 < a.body.l.length
 ·
  replace HR := tr_ HR (if_pos h2)
  rcases h2 with h2 | h2
  all_goals
   go_wp2
   all_goals
    go_ret
    exact ⟨by rw [HR.out]; rfl, below_step HW.out HB⟩
 replace HR := tr_ HR (if_neg h2)
 have h3 : a.params.l.length ≤ 4 := by omega
 have h4 : a.body.l.length ≤ 12 := by omega
 clear h2
 have H0 := hi_ HB
 go_wp2
 go_loopw [3, 4, 24] (fun _ _ iv wr => ∃ k : Nat, k ≤ a.params.l.length ∧ iv = .int .i64 k ∧ (∀ j, j < k → fldM a.params.l j = none) ∧ Below W.heap.size W wr) (fun _ _ i _ => a.params.l.length - (intOf i).toNat)
 case atStart => exact ⟨0, Nat.zero_le _, rfl, fun j h => absurd h (Nat.not_lt_zero _), H0.out⟩
 case round =>
  clear HB
  obtain ⟨k, hk, rfl, hpre, HB⟩ := hrel
  have HPre := hi_ hpre
  clear hpre
  by_cases hlt : k < a.params.l.length
  ·
   obtain ⟨g, of, hA, d0, d1⟩ := FieldD.at (HP.out.below (below_step HW.out HB) (Nat.le_refl _)) hlt
   have HF := hi_ (fldM_at a.params.l k hlt)
   have HD := hi_ (dup_at a.params.l k hlt)
   have HNk := hi_ (HN.out _ (List.getElem_mem hlt))
   have hca := @World.cell?_alloc_some
   generalize hAA : a.params.A = pA at *
   subst hA
   generalize a.params.l[k] = y at *
   go_wp2_with fail
   refine (isIdent_any y.name _ HNk.out).mono ?_
   rintro e w' ⟨rfl, rfl⟩
   cases h1 : identM y.name.data.toList
   ·
    have HE := tr_ HF (if_pos (show ident y.name = false from h1))
    have HR2 : Hid (declarM a = 6) := hi_ (by rw [HR.out, firstE_some hlt HPre.out HE.out])
    go_wp2
    go_ret
    exact ⟨by rw [HR2.out]; rfl, below_step HW.out (by first | exact HB | exact ba1 HB | exact ba2 HB | exact ba3 HB)⟩
   have HF1 := tr_ HF (if_neg (show ¬ ident y.name = false by rw [show ident y.name = true from h1]; simp))
   clear HF h1
   cases h2 : okW y.width
   ·
    have HE := tr_ HF1 (if_pos h2)
    have HR2 : Hid (declarM a = 10) := hi_ (by rw [HR.out, firstE_some hlt HPre.out HE.out])
    rcases okW_not.1 h2 with h3 | h3
    all_goals
     go_wp2
     go_ret
     exact ⟨by rw [HR2.out]; rfl, below_step HW.out (by first | exact HB | exact ba1 HB | exact ba2 HB | exact ba3 HB)⟩
   have HF2 := tr_ HF1 (if_neg (by rw [h2]; simp))
   clear HF1
   obtain ⟨w1, w2⟩ := okW_iff.1 h2
   have hi1 : (k : Int) ≤ (a.params.l.length : Int) := by omega
   have hi2 : k ≤ a.params.c := by omega
   go_wp2_with fail
   have hcf := containsFunc_any a.params k a.params.c wr.heap.size y.name (wr.alloc (.cells #[.string y.name, .int .i64 y.width] 104)) hk (HP.out.below (below_step HW.out (by first | exact HB | exact ba1 HB | exact ba2 HB | exact ba3 HB)) (Nat.le_refl _)) (by simp)
   rw [hAA] at hcf
   refine hcf.mono ?_
   clear hcf
   rintro e w3 ⟨rfl, hbN⟩
   replace HB := below_step (by first | exact HB | exact ba1 HB | exact ba2 HB | exact ba3 HB) hbN
   clear hbN
   rw [HD.out]
   cases h4 : dupB (a.params.l.map FieldD.name) k
   ·
    have HE := tr_ HF2 (if_neg (by rw [h4]; simp))
    go_wp2
    go_roundw
    case rel => exact ⟨k + 1, by omega, by go_num, firstE_step HPre.out HE.out, HB⟩
    case measure => simp [intOf]; omega
   ·
    have HE := tr_ HF2 (if_pos h4)
    have HR2 : Hid (declarM a = 7) := hi_ (by rw [HR.out, firstE_some hlt HPre.out HE.out])
    go_wp2
    go_ret
    exact ⟨by rw [HR2.out]; rfl, below_step HW.out HB⟩
  ·
   have e : k = a.params.l.length := by omega
   have HR2 : Hid (declarM a = 0) := hi_ (by rw [HR.out, firstE_none (by rw [← e]; exact HPre.out)])
   go_wp2
   go_ret
   exact ⟨by rw [HR2.out]; rfl, below_step HW.out HB⟩
theorem box3 (w : World) (cs : Array Value) (t : TypeId) (cs2 : Array Value) (t2 : TypeId) (cs3 : Array Value) (t3 : TypeId) : ∃ W, W = ((w.alloc (.cells cs t)).alloc (.cells cs2 t2)).alloc (.cells cs3 t3) ∧ Below w.heap.size w W ∧ Below W.heap.size W W ∧
  ∀ w', Below W.heap.size W w' → (∀ i, i < cs.size → w'.cell? ⟨w.heap.size, i, none⟩ = cs[i]?) ∧ (∀ i, i < cs2.size → w'.cell? ⟨w.heap.size + 1, i, none⟩ = cs2[i]?) ∧ ∀ i, i < cs3.size → w'.cell? ⟨w.heap.size + 1 + 1, i, none⟩ = cs3[i]? := by
 obtain ⟨W1, e1, b1, _, h1⟩ := box1 w cs t
 obtain ⟨W2, e2, b2, _, h2⟩ := box1 W1 cs2 t2
 obtain ⟨W3, e3, b3, _, h3⟩ := box1 W2 cs3 t3
 have s1 : W1.heap.size = w.heap.size + 1 := by rw [e1]; simp
 have s2 : W2.heap.size = w.heap.size + 1 + 1 := by rw [e2, World.size_alloc, s1]
 rw [s1] at h2
 rw [s2] at h3
 exact ⟨W3, by rw [e3, e2, e1], below_step b1 (below_step b2 b3), Below.refl _ _, fun w' hb => ⟨h1 w' (below_step b2 (below_step b3 hb)), h2 w' (below_step b3 hb), h3 w' hb⟩⟩
theorem regAt_cases (p : ProgD) (i : Int) : ((i < 0 ∨ (p.registers.l.length : Int) ≤ i) ∧ regAt p i = none) ∨ ∃ k : Nat, ∃ hk : k < p.registers.l.length, i = k ∧ regAt p i = some p.registers.l[k] := by
 by_cases h1 : i < 0
 · exact .inl ⟨.inl h1, by rw [regAt, if_pos h1]⟩
 ·
  obtain ⟨k, rfl⟩ : ∃ k : Nat, i = k := ⟨i.toNat, by omega⟩
  by_cases h2 : k < p.registers.l.length
  · exact .inr ⟨k, h2, rfl, by rw [regAt, if_neg h1]; simp [h2]⟩
  · exact .inl ⟨.inr (by omega), by rw [regAt, if_neg h1]; simp [List.getElem?_eq_none (Nat.le_of_not_lt h2)]⟩
@[reducible] def stmtCells (s : StmtD) : Array Value := #[.int .i64 s.kind, .int .i64 s.dh, .int .i64 s.df, .int .i64 s.reg, .int .i64 s.hdr, .slice s.index.A s.index.l.length s.index.c, .slice s.value.A s.value.l.length s.value.c]
theorem st_assign (p : ProgD) (ps : L FieldD) (kind dh df rg hd : Int) (ix vl : L NodeD) (w : World) (o : ProgOk w p) (hps : LOk w 2 FieldD.cells ps) (os : StmtOk w ⟨kind, dh, df, rg, hd, ix, vl⟩) (hk : kind = 1) :
  Calls Tryz.prog 156 #[.agg (scopeCells p ps), .agg (stmtCells ⟨kind, dh, df, rg, hd, ix, vl⟩)] w fun e w' => e = .returned (.int .i64 (stmtM p ps.l ⟨kind, dh, df, rg, hd, ix, vl⟩)) ∧ Below w.heap.size w w' := by
 have HO := hi_ o
 have HP := hi_ hps
 have HX := hi_ os.index
 have HV := hi_ os.value
 clear o hps os
 obtain ⟨W, hW, hw, HB, hp⟩ := box3 w (scopeCells p ps) 219 (stmtCells ⟨kind, dh, df, rg, hd, ix, vl⟩) 96 (progCells p) 31
 have HW := hi_ hw
 clear hw
 have HR := hi_ (stmtM.eq_1 p ps.l ⟨kind, dh, df, rg, hd, ix, vl⟩)
 simp only at HX HV
 subst hk
 replace HR := tr_ HR (if_pos rfl)
 have hr : rg < 0 ∨ (0 ≤ rg ∧ rg < p.registers.l.length) ∨ (0 ≤ rg ∧ (p.registers.l.length : Int) ≤ rg) := by omega
 rcases hm : declM p dh df with _ | wd
 ·
  replace HR : Hid (stmtM p ps.l ⟨1, dh, df, rg, hd, ix, vl⟩ = 8) := hi_ (by rw [HR.out]; simp only [hm])
  rcases hr with hr | ⟨hr, hr2⟩ | ⟨hr, hr2⟩
  all_goals
   go_enter Tryz.func156, Tryz.ntmps156
   go_upto_region 2 with fail
   rw [← hW]
   clear hW
   go_wp2_with fail
   refine (awidth_any p dh df _ (HO.out.below (below_step HW.out (by first | exact HB | exact ba1 HB | exact ba2 HB | exact ba3 HB)))).mono ?_
   rintro e w1 ⟨rfl, hbN⟩
   replace HB := below_step (by first | exact HB | exact ba1 HB | exact ba2 HB | exact ba3 HB) hbN
   clear hbN
   rw [hm]
   simp only [widthV, Option.getD_none, Option.isSome_none]
   go_wp2
   go_ret
   exact ⟨by rw [HR.out]; rfl, below_step HW.out HB⟩
 ·
  replace HR : Hid (stmtM p ps.l ⟨1, dh, df, rg, hd, ix, vl⟩ = sizedM p ps.l vl.l wd) := hi_ (by rw [HR.out]; simp only [hm])
  rcases hr with hr | ⟨hr, hr2⟩ | ⟨hr, hr2⟩
  all_goals
   go_enter Tryz.func156, Tryz.ntmps156
   go_upto_region 2 with fail
   rw [← hW]
   clear hW
   go_wp2_with fail
   refine (awidth_any p dh df _ (HO.out.below (below_step HW.out (by first | exact HB | exact ba1 HB | exact ba2 HB | exact ba3 HB)))).mono ?_
   rintro e w1 ⟨rfl, hbN⟩
   replace HB := below_step (by first | exact HB | exact ba1 HB | exact ba2 HB | exact ba3 HB) hbN
   clear hbN
   rw [hm]
   simp only [widthV, Option.getD_some, Option.isSome_some]
   go_wp2_with fail
   refine (avalue_any p ps vl wd _ (HO.out.below (below_step HW.out (by first | exact HB | exact ba1 HB | exact ba2 HB | exact ba3 HB))) (HP.out.below (below_step HW.out (by first | exact HB | exact ba1 HB | exact ba2 HB | exact ba3 HB)) (Nat.le_refl _)) (HV.out.below (below_step HW.out (by first | exact HB | exact ba1 HB | exact ba2 HB | exact ba3 HB)) (Nat.le_refl _))).mono ?_
   rintro e w2 ⟨rfl, hbN⟩
   replace HB := below_step (by first | exact HB | exact ba1 HB | exact ba2 HB | exact ba3 HB) hbN
   clear hbN
   go_wp2
   go_ret
   exact ⟨by rw [HR.out]; rfl, below_step HW.out HB⟩
theorem st_hdr (p : ProgD) (ps : L FieldD) (kind dh df rg hd : Int) (ix vl : L NodeD) (w : World) (o : ProgOk w p) (hps : LOk w 2 FieldD.cells ps) (os : StmtOk w ⟨kind, dh, df, rg, hd, ix, vl⟩) (hk : kind = 2 ∨ kind = 3) :
  Calls Tryz.prog 156 #[.agg (scopeCells p ps), .agg (stmtCells ⟨kind, dh, df, rg, hd, ix, vl⟩)] w fun e w' => e = .returned (.int .i64 (stmtM p ps.l ⟨kind, dh, df, rg, hd, ix, vl⟩)) ∧ Below w.heap.size w w' := by
 have HO := hi_ o
 have HP := hi_ hps
 have HX := hi_ os.index
 have HV := hi_ os.value
 clear o hps os
 obtain ⟨W, hW, hw, HB, hp⟩ := box3 w (scopeCells p ps) 219 (stmtCells ⟨kind, dh, df, rg, hd, ix, vl⟩) 96 (progCells p) 31
 have HW := hi_ hw
 clear hw
 have HR := hi_ (stmtM.eq_1 p ps.l ⟨kind, dh, df, rg, hd, ix, vl⟩)
 simp only at HX HV
 have hr : rg < 0 ∨ (0 ≤ rg ∧ rg < p.registers.l.length) ∨ (0 ≤ rg ∧ (p.registers.l.length : Int) ≤ rg) := by omega
 replace HR := tr_ HR ((if_neg (show ¬ kind = 1 by omega)).trans (if_pos hk))
 have hh : hd < 0 ∨ (0 ≤ hd ∧ (p.headers.l.length : Int) ≤ hd) ∨ (0 ≤ hd ∧ hd < p.headers.l.length) := by omega
 rcases hh with hh | ⟨hh, hh2⟩ | ⟨hh, hh2⟩
 all_goals
  first
   | replace HR := tr_ HR (if_pos (Or.inl hh))
   | replace HR := tr_ HR (if_pos (Or.inr hh2))
   | replace HR := tr_ HR (if_neg (show ¬ (hd < 0 ∨ (p.headers.l.length : Int) ≤ hd) by omega))
  rcases hk with rfl | rfl
  all_goals
   rcases hr with hr | ⟨hr, hr2⟩ | ⟨hr, hr2⟩
   all_goals
    go_enter Tryz.func156, Tryz.ntmps156
    go_upto_region 2 with fail
    rw [← hW]
    clear hW
    go_wp2_with fail
    refine (awidth_any p dh df _ (HO.out.below (below_step HW.out (by first | exact HB | exact ba1 HB | exact ba2 HB | exact ba3 HB)))).mono ?_
    rintro e w1 ⟨rfl, hbN⟩
    replace HB := below_step (by first | exact HB | exact ba1 HB | exact ba2 HB | exact ba3 HB) hbN
    clear hbN
    simp only [widthV]
    go_wp2
    go_ret
    exact ⟨by rw [HR.out]; rfl, below_step HW.out HB⟩
end Go.Proofs.YtofjapcgbajmiaaGreatDoor
