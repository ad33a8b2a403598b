/- The walk of phv.Store. No condition but that the arguments lie in memory, the program's lists are short, the slots few. -/
import Derived.Test.YtbfjknidinkafaaGreatSe
import Derived.Laws.OwnMore
import Derived.Test.YtbfjknidinkafaaGreatSd
namespace Go.Proofs.YtbfjknidinkafaaGreat
open Go.RowKit
set_option maxRecDepth 100000
set_option maxHeartbeats 16000000
theorem made_false (n : Nat) : (madeCells (Value.cells (.bool false)) (n * 1)).toList = (List.replicate n false).flatMap bcell := by
  have h1 : Value.cells (.bool false) = #[.bool false] := rfl
  rw [h1, Nat.mul_one]
  simp only [madeCells, Array.toList_map, Array.toList_range]
  induction n with
  | zero => rfl
  | succ n ih =>
    rw [List.range_succ, List.map_append, List.replicate_succ', List.flatMap_append, ih]
    simp [bcell, Nat.mod_one]
theorem made_nils (n : Nat) : (madeCells (Value.cells (.slice none 0 0)) (n * 1)).toList = (List.replicate n (⟨[], none, 0⟩ : L Int)).flatMap lcell := by
  have h1 : Value.cells (.slice none 0 0) = #[.slice none 0 0] := rfl
  rw [h1, Nat.mul_one]
  simp only [madeCells, Array.toList_map, Array.toList_range]
  induction n with
  | zero => rfl
  | succ n ih =>
    rw [List.range_succ, List.map_append, List.replicate_succ', List.flatMap_append, ih]
    simp [lcell, L.v, Nat.mod_one]
theorem made_zero3 (n : Nat) : (madeCells (Value.cells (.int .u32 0)) (n * 1)).toList = (List.replicate n (0 : Int)).flatMap ucell := by
  have h1 : Value.cells (.int .u32 0) = #[.int .u32 0] := rfl
  rw [h1, Nat.mul_one]
  simp only [madeCells, Array.toList_map, Array.toList_range]
  induction n with
  | zero => rfl
  | succ n ih =>
    rw [List.range_succ, List.map_append, List.replicate_succ', List.flatMap_append, ih]
    simp [ucell, Nat.mod_one]
structure NwHyp (W : World) (gb : Nat) (Ah : Option Addr) (nh ch : Nat) (Am : Option Addr) (nm cm : Nat) : Prop where
  k1 : ∀ u, Below W.heap.size W u → u.cell? ⟨gb, 1, none⟩ = some (.slice Ah nh ch)
  k2 : ∀ u, Below W.heap.size W u → u.cell? ⟨gb, 2, none⟩ = some (.slice Am nm cm)
  m1 : nh ≤ 1000
  m2 : nh ≤ 1000
  m3 : nm ≤ 1000
def nwop0 : Oper := { dst := some 5, op := Op.fieldAddr 31 (Operand.tmp 1) 1, type := 0, pos := "env.go:43", after := #[], guard := none }
def nwop1 : Oper := { dst := some 6, op := Op.load 22 (Operand.tmp 5), type := 22, pos := "env.go:43", after := #[{ on := 0, ground := Ground.data }], guard := none }
def nwop2 : Oper := { dst := some 7, op := Op.call { callee := Callee.builtin Builtin.len, args := #[Operand.tmp 6], argTypes := #[22] }, type := 3, pos := "env.go:43", after := #[{ on := 1, ground := Ground.data }], guard := none }
def nwop3 : Oper := { dst := some 8, op := Op.makeSlice 51 (Operand.tmp 7) (Operand.tmp 7), type := 51, pos := "env.go:43", after := #[{ on := 2, ground := Ground.data }, { on := 2, ground := Ground.data }], guard := none }
def nwop4 : Oper := { dst := some 9, op := Op.fieldAddr 31 (Operand.tmp 1) 1, type := 0, pos := "env.go:43", after := #[], guard := none }
def nwop5 : Oper := { dst := some 10, op := Op.load 22 (Operand.tmp 9), type := 22, pos := "env.go:43", after := #[{ on := 4, ground := Ground.data }], guard := none }
def nwop6 : Oper := { dst := some 11, op := Op.call { callee := Callee.builtin Builtin.len, args := #[Operand.tmp 10], argTypes := #[22] }, type := 3, pos := "env.go:43", after := #[{ on := 5, ground := Ground.data }], guard := none }
def nwop7 : Oper := { dst := some 12, op := Op.makeSlice 52 (Operand.tmp 11) (Operand.tmp 11), type := 52, pos := "env.go:43", after := #[{ on := 6, ground := Ground.data }, { on := 6, ground := Ground.data }], guard := none }
def nwop8 : Oper := { dst := some 13, op := Op.fieldAddr 31 (Operand.tmp 1) 2, type := 0, pos := "env.go:43", after := #[], guard := none }
def nwop9 : Oper := { dst := some 14, op := Op.load 23 (Operand.tmp 13), type := 23, pos := "env.go:43", after := #[{ on := 8, ground := Ground.data }], guard := none }
def nwop10 : Oper := { dst := some 15, op := Op.call { callee := Callee.builtin Builtin.len, args := #[Operand.tmp 14], argTypes := #[23] }, type := 3, pos := "env.go:43", after := #[{ on := 9, ground := Ground.data }], guard := none }
def nwop11 : Oper := { dst := some 16, op := Op.makeSlice 53 (Operand.tmp 15) (Operand.tmp 15), type := 53, pos := "env.go:43", after := #[{ on := 10, ground := Ground.data }, { on := 10, ground := Ground.data }], guard := none }
def nwop12 : Oper := { dst := some 17, op := Op.build 56 #[(0, Operand.tmp 8), (1, Operand.tmp 12), (2, Operand.tmp 16)], type := 56, pos := "env.go:43", after := #[{ on := 3, ground := Ground.data }, { on := 7, ground := Ground.data }, { on := 11, ground := Ground.data }], guard := none }
def nwop13 : Oper := { dst := some 3, op := Op.alloc 56, type := 0, pos := "env.go:43", after := #[], guard := none }
def nwop14 : Oper := { dst := none, op := Op.store 56 (Operand.tmp 3) (Operand.tmp 17), type := 0, pos := "env.go:43", after := #[{ on := 13, ground := Ground.data }, { on := 12, ground := Ground.data }, { on := 0, ground := Ground.phase }, { on := 1, ground := Ground.phase }, { on := 2, ground := Ground.phase }, { on := 3, ground := Ground.phase }, { on := 4, ground := Ground.phase }, { on := 5, ground := Ground.phase }, { on := 6, ground := Ground.phase }, { on := 7, ground := Ground.phase }, { on := 8, ground := Ground.phase }, { on := 9, ground := Ground.phase }, { on := 10, ground := Ground.phase }, { on := 11, ground := Ground.phase }, { on := 12, ground := Ground.phase }, { on := 13, ground := Ground.phase }], guard := none }
def nwops : Array Oper := #[nwop0, nwop1, nwop2, nwop3, nwop4, nwop5, nwop6, nwop7, nwop8, nwop9, nwop10, nwop11, nwop12, nwop13, nwop14]
def nwFin (W : World) (gb : Nat) (v0 v2 : Value) (Ah : Option Addr) (nh ch : Nat) (Am : Option Addr) (nm cm : Nat) (Q : Exit → Act → World → Prop) : Prop :=
  ∀ (w : World) (A1 : Option Addr) (c1 : Nat) (A2 : Option Addr) (c2 : Nat) (A3 : Option Addr) (c3 : Nat) (ga : Nat), Below W.heap.size W w → OwnL w W.heap.size 4 bcell ⟨(List.replicate nh false), A1, c1⟩ → OwnL w W.heap.size 53 lcell ⟨(List.replicate nh (⟨[], none, 0⟩ : L Int)), A2, c2⟩ → OwnL w W.heap.size 83 ucell ⟨(List.replicate nm (0 : Int)), A3, c3⟩ → AptB (⟨(List.replicate nh false), A1, c1⟩ : L Bool).v (⟨(List.replicate nh (⟨[], none, 0⟩ : L Int)), A2, c2⟩ : L (L Int)).v → AptB (⟨(List.replicate nh false), A1, c1⟩ : L Bool).v (⟨(List.replicate nm (0 : Int)), A3, c3⟩ : L Int).v → AptB (⟨(List.replicate nh (⟨[], none, 0⟩ : L Int)), A2, c2⟩ : L (L Int)).v (⟨(List.replicate nm (0 : Int)), A3, c3⟩ : L Int).v →
    Blk w ga 56 #[.slice A1 nh c1, .slice A2 nh c2, .slice A3 nm c3, .slice none 0 0] ∧ W.heap.size ≤ ga → OffB ga (⟨(List.replicate nh false), A1, c1⟩ : L Bool).v → OffB ga (⟨(List.replicate nh (⟨[], none, 0⟩ : L Int)), A2, c2⟩ : L (L Int)).v → OffB ga (⟨(List.replicate nm (0 : Int)), A3, c3⟩ : L Int).v → Q .normal { tmps := #[v0, .pointer (some ⟨gb, 0, none⟩), v2, .pointer (some ⟨ga, 0, none⟩), undef, .pointer (some ⟨gb, 1, none⟩), .slice Ah nh ch, .int .i64 (nh : Nat), .slice A1 nh c1, .pointer (some ⟨gb, 1, none⟩), .slice Ah nh ch, .int .i64 (nh : Nat), .slice A2 nh c2, .pointer (some ⟨gb, 2, none⟩), .slice Am nm cm, .int .i64 (nm : Nat), .slice A3 nm c3, .agg #[.slice A1 nh c1, .slice A2 nh c2, .slice A3 nm c3, .slice none 0 0], undef, undef, undef, undef, undef, undef, undef, undef, undef, undef, undef, undef, undef, undef, undef, undef, undef, undef, undef, undef], defers := [] } w
section
variable {W : World} {gb : Nat} {v0 v2 : Value} {Ah : Option Addr} {nh ch : Nat} {Am : Option Addr} {nm cm : Nat} {Q : Exit → Act → World → Prop}
theorem nw_end (hQ : nwFin W gb v0 v2 Ah nh ch Am nm cm Q) (w : World) (A1 : Option Addr) (c1 : Nat) (A2 : Option Addr) (c2 : Nat) (A3 : Option Addr) (c3 : Nat) (ga : Nat) (hB : Below W.heap.size W w) (o1 : OwnL w W.heap.size 4 bcell ⟨(List.replicate nh false), A1, c1⟩) (o2 : OwnL w W.heap.size 53 lcell ⟨(List.replicate nh (⟨[], none, 0⟩ : L Int)), A2, c2⟩) (o3 : OwnL w W.heap.size 83 ucell ⟨(List.replicate nm (0 : Int)), A3, c3⟩) (e12 : AptB (⟨(List.replicate nh false), A1, c1⟩ : L Bool).v (⟨(List.replicate nh (⟨[], none, 0⟩ : L Int)), A2, c2⟩ : L (L Int)).v) (e13 : AptB (⟨(List.replicate nh false), A1, c1⟩ : L Bool).v (⟨(List.replicate nm (0 : Int)), A3, c3⟩ : L Int).v) (e23 : AptB (⟨(List.replicate nh (⟨[], none, 0⟩ : L Int)), A2, c2⟩ : L (L Int)).v (⟨(List.replicate nm (0 : Int)), A3, c3⟩ : L Int).v) (ha : Blk w ga 56 #[.slice none 0 0, .slice none 0 0, .slice none 0 0, .slice none 0 0] ∧ W.heap.size ≤ ga) (f1 : OffB ga (⟨(List.replicate nh false), A1, c1⟩ : L Bool).v) (f2 : OffB ga (⟨(List.replicate nh (⟨[], none, 0⟩ : L Int)), A2, c2⟩ : L (L Int)).v) (f3 : OffB ga (⟨(List.replicate nm (0 : Int)), A3, c3⟩ : L Int).v) :
    wpAnyH Tryz.prog .any nwops Q (fun w' => Below W.heap.size W w') 1 #[true, true, true, true, true, true, true, true, true, true, true, true, true, true, false] { tmps := #[v0, .pointer (some ⟨gb, 0, none⟩), v2, .pointer (some ⟨ga, 0, none⟩), undef, .pointer (some ⟨gb, 1, none⟩), .slice Ah nh ch, .int .i64 (nh : Nat), .slice A1 nh c1, .pointer (some ⟨gb, 1, none⟩), .slice Ah nh ch, .int .i64 (nh : Nat), .slice A2 nh c2, .pointer (some ⟨gb, 2, none⟩), .slice Am nm cm, .int .i64 (nm : Nat), .slice A3 nm c3, .agg #[.slice A1 nh c1, .slice A2 nh c2, .slice A3 nm c3, .slice none 0 0], undef, undef, undef, undef, undef, undef, undef, undef, undef, undef, undef, undef, undef, undef, undef, undef, undef, undef, undef, undef], defers := [] } w := by
  refine wpAnyH_ready (rs := [14]) (by kernel_rfl) (by simp) ?_
  refine AllReadyH.cons (o := nwop14) rfl (fun K hK => ?_) AllReadyH.nil
  have a0 : w.cell? ⟨ga, 0, none⟩ = some (.slice none 0 0) := ha.1.cell 0
  have a1 : w.cell? ⟨ga, 1, none⟩ = some (.slice none 0 0) := ha.1.cell 1
  have a2 : w.cell? ⟨ga, 2, none⟩ = some (.slice none 0 0) := ha.1.cell 2
  have a3 : w.cell? ⟨ga, 3, none⟩ = some (.slice none 0 0) := ha.1.cell 3
  have af : ∀ j, w.frozen? ⟨ga, j, none⟩ = false := fun j => ha.1.frozen j
  simp only [nwop14]
  go_simp
  have hBs : Below W.heap.size W ((((w.setCell ⟨ga, 0, none⟩ (.slice A1 nh c1)).setCell ⟨ga, 1, none⟩ (.slice A2 nh c2)).setCell ⟨ga, 2, none⟩ (.slice A3 nm c3)).setCell ⟨ga, 3, none⟩ (.slice none 0 0)) := (((hB.setCell (by exact ha.2) _).setCell (by exact ha.2) _).setCell (by exact ha.2) _).setCell (by exact ha.2) _
  refine hK.out _ _ hBs (fun _ => ?_)
  clear hK K
  try simp only [sA, sZ, sS]
  refine wpAnyH_done (by kernel_rfl) ?_ _
  exact hQ _ A1 c1 A2 c2 A3 c3 ga hBs (o1.four f1 _ _ _ _) (o2.four f2 _ _ _ _) (o3.four f3 _ _ _ _) e12 e13 e23 ⟨(((ha.1.set_ 0 _).set_ 1 _).set_ 2 _).set_ 3 _, ha.2⟩ f1 f2 f3
theorem nw_1111 (hQ : nwFin W gb v0 v2 Ah nh ch Am nm cm Q) (hP : ∀ c (d : Option Tmp) v a w, Q (.panic c) (a.put d v) w → Q (.panic c) a w) (w : World) (A1 : Option Addr) (c1 : Nat) (A2 : Option Addr) (c2 : Nat) (A3 : Option Addr) (c3 : Nat) (ga : Nat) (hB : Below W.heap.size W w) (o1 : OwnL w W.heap.size 4 bcell ⟨(List.replicate nh false), A1, c1⟩) (o2 : OwnL w W.heap.size 53 lcell ⟨(List.replicate nh (⟨[], none, 0⟩ : L Int)), A2, c2⟩) (o3 : OwnL w W.heap.size 83 ucell ⟨(List.replicate nm (0 : Int)), A3, c3⟩) (e12 : AptB (⟨(List.replicate nh false), A1, c1⟩ : L Bool).v (⟨(List.replicate nh (⟨[], none, 0⟩ : L Int)), A2, c2⟩ : L (L Int)).v) (e13 : AptB (⟨(List.replicate nh false), A1, c1⟩ : L Bool).v (⟨(List.replicate nm (0 : Int)), A3, c3⟩ : L Int).v) (e23 : AptB (⟨(List.replicate nh (⟨[], none, 0⟩ : L Int)), A2, c2⟩ : L (L Int)).v (⟨(List.replicate nm (0 : Int)), A3, c3⟩ : L Int).v) (ha : Blk w ga 56 #[.slice none 0 0, .slice none 0 0, .slice none 0 0, .slice none 0 0] ∧ W.heap.size ≤ ga) (f1 : OffB ga (⟨(List.replicate nh false), A1, c1⟩ : L Bool).v) (f2 : OffB ga (⟨(List.replicate nh (⟨[], none, 0⟩ : L Int)), A2, c2⟩ : L (L Int)).v) (f3 : OffB ga (⟨(List.replicate nm (0 : Int)), A3, c3⟩ : L Int).v) :
    wpAnyH Tryz.prog .any nwops Q (fun w' => Below W.heap.size W w') 2 #[true, true, true, true, true, true, true, true, true, true, true, true, false, true, false] { tmps := #[v0, .pointer (some ⟨gb, 0, none⟩), v2, .pointer (some ⟨ga, 0, none⟩), undef, .pointer (some ⟨gb, 1, none⟩), .slice Ah nh ch, .int .i64 (nh : Nat), .slice A1 nh c1, .pointer (some ⟨gb, 1, none⟩), .slice Ah nh ch, .int .i64 (nh : Nat), .slice A2 nh c2, .pointer (some ⟨gb, 2, none⟩), .slice Am nm cm, .int .i64 (nm : Nat), .slice A3 nm c3, undef, undef, undef, undef, undef, undef, undef, undef, undef, undef, undef, undef, undef, undef, undef, undef, undef, undef, undef, undef, undef], defers := [] } w := by
  refine wpAnyH_take (i := 12) (oi := nwop12) (v := ?t1v) rfl (by kernel_rfl) (by kernel_rfl) (by kernel_rfl) (fun c a w h => hP c _ _ a w h) (Or.inl ⟨by rfl, ?t1y⟩) (by assumption) ?t1r
  case t1y => (intro w hSw; (try dsimp only at hSw); simp only [nwop12]; go_simp; try (with_reducible rfl))
  try simp only [Act.put, nwop12, sA, sZ, sS]
  exact nw_end hQ w A1 c1 A2 c2 A3 c3 ga hB o1 o2 o3 e12 e13 e23 ha f1 f2 f3
theorem nw_1110 (hQ : nwFin W gb v0 v2 Ah nh ch Am nm cm Q) (hP : ∀ c (d : Option Tmp) v a w, Q (.panic c) (a.put d v) w → Q (.panic c) a w) (w : World) (A1 : Option Addr) (c1 : Nat) (A2 : Option Addr) (c2 : Nat) (A3 : Option Addr) (c3 : Nat) (hB : Below W.heap.size W w) (o1 : OwnL w W.heap.size 4 bcell ⟨(List.replicate nh false), A1, c1⟩) (o2 : OwnL w W.heap.size 53 lcell ⟨(List.replicate nh (⟨[], none, 0⟩ : L Int)), A2, c2⟩) (o3 : OwnL w W.heap.size 83 ucell ⟨(List.replicate nm (0 : Int)), A3, c3⟩) (e12 : AptB (⟨(List.replicate nh false), A1, c1⟩ : L Bool).v (⟨(List.replicate nh (⟨[], none, 0⟩ : L Int)), A2, c2⟩ : L (L Int)).v) (e13 : AptB (⟨(List.replicate nh false), A1, c1⟩ : L Bool).v (⟨(List.replicate nm (0 : Int)), A3, c3⟩ : L Int).v) (e23 : AptB (⟨(List.replicate nh (⟨[], none, 0⟩ : L Int)), A2, c2⟩ : L (L Int)).v (⟨(List.replicate nm (0 : Int)), A3, c3⟩ : L Int).v) :
    wpAnyH Tryz.prog .any nwops Q (fun w' => Below W.heap.size W w') 3 #[true, true, true, true, true, true, true, true, true, true, true, true, false, false, false] { tmps := #[v0, .pointer (some ⟨gb, 0, none⟩), v2, undef, undef, .pointer (some ⟨gb, 1, none⟩), .slice Ah nh ch, .int .i64 (nh : Nat), .slice A1 nh c1, .pointer (some ⟨gb, 1, none⟩), .slice Ah nh ch, .int .i64 (nh : Nat), .slice A2 nh c2, .pointer (some ⟨gb, 2, none⟩), .slice Am nm cm, .int .i64 (nm : Nat), .slice A3 nm c3, undef, undef, undef, undef, undef, undef, undef, undef, undef, undef, undef, undef, undef, undef, undef, undef, undef, undef, undef, undef, undef], defers := [] } w := by
  refine wpAnyH_take (i := 12) (oi := nwop12) (v := ?t2v) rfl (by kernel_rfl) (by kernel_rfl) (by kernel_rfl) (fun c a w h => hP c _ _ a w h) (Or.inl ⟨by rfl, ?t2y⟩) (by assumption) ?t2r
  case t2y => (intro w hSw; (try dsimp only at hSw); simp only [nwop12]; go_simp; try (with_reducible rfl))
  try simp only [Act.put, nwop12, sA, sZ, sS]
  refine wpAnyH_ready (rs := [13]) (by kernel_rfl) (by simp) ?_
  refine AllReadyH.cons (o := nwop13) rfl (fun K hK => ?_) AllReadyH.nil
  · simp only [nwop13]
    go_simp
    have hb1 := below1 w (.cells #[.slice none 0 0, .slice none 0 0, .slice none 0 0, .slice none 0 0] 56)
    have hB1 := below_step hB hb1
    refine hK.out _ _ hB1 (fun _ => ?_)
    clear hK K
    try simp only [sA, sZ, sS]
    exact nw_end hQ _ A1 c1 A2 c2 A3 c3 w.heap.size hB1 (o1.below hb1) (o2.below hb1) (o3.below hb1) e12 e13 e23 ⟨Blk.new _ _ _, hB.size⟩ (OffB.old o1) (OffB.old o2) (OffB.old o3)
theorem nw_1101 (hQ : nwFin W gb v0 v2 Ah nh ch Am nm cm Q) (hP : ∀ c (d : Option Tmp) v a w, Q (.panic c) (a.put d v) w → Q (.panic c) a w) (HC : NwHyp W gb Ah nh ch Am nm cm) (w : World) (A1 : Option Addr) (c1 : Nat) (A2 : Option Addr) (c2 : Nat) (ga : Nat) (hB : Below W.heap.size W w) (o1 : OwnL w W.heap.size 4 bcell ⟨(List.replicate nh false), A1, c1⟩) (o2 : OwnL w W.heap.size 53 lcell ⟨(List.replicate nh (⟨[], none, 0⟩ : L Int)), A2, c2⟩) (e12 : AptB (⟨(List.replicate nh false), A1, c1⟩ : L Bool).v (⟨(List.replicate nh (⟨[], none, 0⟩ : L Int)), A2, c2⟩ : L (L Int)).v) (ha : Blk w ga 56 #[.slice none 0 0, .slice none 0 0, .slice none 0 0, .slice none 0 0] ∧ W.heap.size ≤ ga) (f1 : OffB ga (⟨(List.replicate nh false), A1, c1⟩ : L Bool).v) (f2 : OffB ga (⟨(List.replicate nh (⟨[], none, 0⟩ : L Int)), A2, c2⟩ : L (L Int)).v) :
    wpAnyH Tryz.prog .any nwops Q (fun w' => Below W.heap.size W w') 3 #[true, true, true, true, true, true, true, true, true, true, true, false, false, true, false] { tmps := #[v0, .pointer (some ⟨gb, 0, none⟩), v2, .pointer (some ⟨ga, 0, none⟩), undef, .pointer (some ⟨gb, 1, none⟩), .slice Ah nh ch, .int .i64 (nh : Nat), .slice A1 nh c1, .pointer (some ⟨gb, 1, none⟩), .slice Ah nh ch, .int .i64 (nh : Nat), .slice A2 nh c2, .pointer (some ⟨gb, 2, none⟩), .slice Am nm cm, .int .i64 (nm : Nat), undef, undef, undef, undef, undef, undef, undef, undef, undef, undef, undef, undef, undef, undef, undef, undef, undef, undef, undef, undef, undef, undef], defers := [] } w := by
  refine wpAnyH_ready (rs := [11]) (by kernel_rfl) (by simp) ?_
  refine AllReadyH.cons (o := nwop11) rfl (fun K hK => ?_) AllReadyH.nil
  · simp only [nwop11]
    obtain ⟨i0, hi, hz0, hz1, hz2⟩ := info_parts info_u32
    obtain ⟨w1, hrun, hrow, hgr⟩ := run_make_full (P := Tryz.prog) (w := w) w.heap.size 53 83 i0 _ 1 Tryz.underlying53 hi hz0 hz1 .i64 .i64 nm (by rw [hz2]; have := HC.m3; omega) (by unfold maxLen; have := HC.m3; omega) (Nat.le_refl _)
    obtain ⟨An, hAn⟩ : ∃ An, An = some (⟨w.heap.size, 0, none⟩ : Addr) := ⟨_, rfl⟩
    obtain ⟨cn, hcn⟩ : ∃ cn : Nat, cn = nm := ⟨_, rfl⟩
    have hown : OwnL w1 w.heap.size 83 ucell (⟨(List.replicate nm (0 : Int)), An, cn⟩ : L Int) := by
      rw [made_zero3] at hrow
      unfold OwnL
      subst hAn hcn
      simp only [L.v, List.length_replicate]
      exact hrow
    have hb1 := below_none hgr
    have hB1 := below_step hB hb1
    have hK2 := hK.out
    clear hK
    go_simp
    refine hK2 _ _ hB1 (fun _ => ?_)
    clear hK2 K
    try simp only [sA, sZ, sS]
    subst hAn hcn
    exact nw_1111 hQ hP w1 A1 c1 A2 c2 _ _ ga hB1 (o1.below hb1) (o2.below hb1) (hown.lower hB.size) e12 (AptB.new o1 hown) (AptB.new o2 hown) ⟨ha.1.below hb1 ha.1.lt, ha.2⟩ f1 f2 (OffB.new ha.1 hown)
theorem nw_1011 (hQ : nwFin W gb v0 v2 Ah nh ch Am nm cm Q) (hP : ∀ c (d : Option Tmp) v a w, Q (.panic c) (a.put d v) w → Q (.panic c) a w) (HC : NwHyp W gb Ah nh ch Am nm cm) (w : World) (A1 : Option Addr) (c1 : Nat) (A3 : Option Addr) (c3 : Nat) (ga : Nat) (hB : Below W.heap.size W w) (o1 : OwnL w W.heap.size 4 bcell ⟨(List.replicate nh false), A1, c1⟩) (o3 : OwnL w W.heap.size 83 ucell ⟨(List.replicate nm (0 : Int)), A3, c3⟩) (e13 : AptB (⟨(List.replicate nh false), A1, c1⟩ : L Bool).v (⟨(List.replicate nm (0 : Int)), A3, c3⟩ : L Int).v) (ha : Blk w ga 56 #[.slice none 0 0, .slice none 0 0, .slice none 0 0, .slice none 0 0] ∧ W.heap.size ≤ ga) (f1 : OffB ga (⟨(List.replicate nh false), A1, c1⟩ : L Bool).v) (f3 : OffB ga (⟨(List.replicate nm (0 : Int)), A3, c3⟩ : L Int).v) :
    wpAnyH Tryz.prog .any nwops Q (fun w' => Below W.heap.size W w') 3 #[true, true, true, true, true, true, true, false, true, true, true, true, false, true, false] { tmps := #[v0, .pointer (some ⟨gb, 0, none⟩), v2, .pointer (some ⟨ga, 0, none⟩), undef, .pointer (some ⟨gb, 1, none⟩), .slice Ah nh ch, .int .i64 (nh : Nat), .slice A1 nh c1, .pointer (some ⟨gb, 1, none⟩), .slice Ah nh ch, .int .i64 (nh : Nat), undef, .pointer (some ⟨gb, 2, none⟩), .slice Am nm cm, .int .i64 (nm : Nat), .slice A3 nm c3, undef, undef, undef, undef, undef, undef, undef, undef, undef, undef, undef, undef, undef, undef, undef, undef, undef, undef, undef, undef, undef], defers := [] } w := by
  refine wpAnyH_ready (rs := [7]) (by kernel_rfl) (by simp) ?_
  refine AllReadyH.cons (o := nwop7) rfl (fun K hK => ?_) AllReadyH.nil
  · simp only [nwop7]
    obtain ⟨i0, hi, hz0, hz1, hz2⟩ := info_parts info_u32s
    obtain ⟨w1, hrun, hrow, hgr⟩ := run_make_full (P := Tryz.prog) (w := w) w.heap.size 52 53 i0 _ 1 Tryz.underlying52 hi hz0 hz1 .i64 .i64 nh (by rw [hz2]; have := HC.m2; omega) (by unfold maxLen; have := HC.m2; omega) (Nat.le_refl _)
    obtain ⟨An, hAn⟩ : ∃ An, An = some (⟨w.heap.size, 0, none⟩ : Addr) := ⟨_, rfl⟩
    obtain ⟨cn, hcn⟩ : ∃ cn : Nat, cn = nh := ⟨_, rfl⟩
    have hown : OwnL w1 w.heap.size 53 lcell (⟨(List.replicate nh (⟨[], none, 0⟩ : L Int)), An, cn⟩ : L (L Int)) := by
      rw [made_nils] at hrow
      unfold OwnL
      subst hAn hcn
      simp only [L.v, List.length_replicate]
      exact hrow
    have hb1 := below_none hgr
    have hB1 := below_step hB hb1
    have hK2 := hK.out
    clear hK
    go_simp
    refine hK2 _ _ hB1 (fun _ => ?_)
    clear hK2 K
    try simp only [sA, sZ, sS]
    subst hAn hcn
    exact nw_1111 hQ hP w1 A1 c1 _ _ A3 c3 ga hB1 (o1.below hb1) (hown.lower hB.size) (o3.below hb1) (AptB.new o1 hown) e13 (AptB.new o3 hown).symm ⟨ha.1.below hb1 ha.1.lt, ha.2⟩ f1 (OffB.new ha.1 hown) f3
theorem nw_0111 (hQ : nwFin W gb v0 v2 Ah nh ch Am nm cm Q) (hP : ∀ c (d : Option Tmp) v a w, Q (.panic c) (a.put d v) w → Q (.panic c) a w) (HC : NwHyp W gb Ah nh ch Am nm cm) (w : World) (A2 : Option Addr) (c2 : Nat) (A3 : Option Addr) (c3 : Nat) (ga : Nat) (hB : Below W.heap.size W w) (o2 : OwnL w W.heap.size 53 lcell ⟨(List.replicate nh (⟨[], none, 0⟩ : L Int)), A2, c2⟩) (o3 : OwnL w W.heap.size 83 ucell ⟨(List.replicate nm (0 : Int)), A3, c3⟩) (e23 : AptB (⟨(List.replicate nh (⟨[], none, 0⟩ : L Int)), A2, c2⟩ : L (L Int)).v (⟨(List.replicate nm (0 : Int)), A3, c3⟩ : L Int).v) (ha : Blk w ga 56 #[.slice none 0 0, .slice none 0 0, .slice none 0 0, .slice none 0 0] ∧ W.heap.size ≤ ga) (f2 : OffB ga (⟨(List.replicate nh (⟨[], none, 0⟩ : L Int)), A2, c2⟩ : L (L Int)).v) (f3 : OffB ga (⟨(List.replicate nm (0 : Int)), A3, c3⟩ : L Int).v) :
    wpAnyH Tryz.prog .any nwops Q (fun w' => Below W.heap.size W w') 3 #[true, true, true, false, true, true, true, true, true, true, true, true, false, true, false] { tmps := #[v0, .pointer (some ⟨gb, 0, none⟩), v2, .pointer (some ⟨ga, 0, none⟩), undef, .pointer (some ⟨gb, 1, none⟩), .slice Ah nh ch, .int .i64 (nh : Nat), undef, .pointer (some ⟨gb, 1, none⟩), .slice Ah nh ch, .int .i64 (nh : Nat), .slice A2 nh c2, .pointer (some ⟨gb, 2, none⟩), .slice Am nm cm, .int .i64 (nm : Nat), .slice A3 nm c3, undef, undef, undef, undef, undef, undef, undef, undef, undef, undef, undef, undef, undef, undef, undef, undef, undef, undef, undef, undef, undef], defers := [] } w := by
  refine wpAnyH_ready (rs := [3]) (by kernel_rfl) (by simp) ?_
  refine AllReadyH.cons (o := nwop3) rfl (fun K hK => ?_) AllReadyH.nil
  · simp only [nwop3]
    obtain ⟨i0, hi, hz0, hz1, hz2⟩ := info_parts info_bool
    obtain ⟨w1, hrun, hrow, hgr⟩ := run_make_full (P := Tryz.prog) (w := w) w.heap.size 51 4 i0 _ 1 Tryz.underlying51 hi hz0 hz1 .i64 .i64 nh (by rw [hz2]; have := HC.m1; omega) (by unfold maxLen; have := HC.m1; omega) (Nat.le_refl _)
    obtain ⟨An, hAn⟩ : ∃ An, An = some (⟨w.heap.size, 0, none⟩ : Addr) := ⟨_, rfl⟩
    obtain ⟨cn, hcn⟩ : ∃ cn : Nat, cn = nh := ⟨_, rfl⟩
    have hown : OwnL w1 w.heap.size 4 bcell (⟨(List.replicate nh false), An, cn⟩ : L Bool) := by
      rw [made_false] at hrow
      unfold OwnL
      subst hAn hcn
      simp only [L.v, List.length_replicate]
      exact hrow
    have hb1 := below_none hgr
    have hB1 := below_step hB hb1
    have hK2 := hK.out
    clear hK
    go_simp
    refine hK2 _ _ hB1 (fun _ => ?_)
    clear hK2 K
    try simp only [sA, sZ, sS]
    subst hAn hcn
    exact nw_1111 hQ hP w1 _ _ A2 c2 A3 c3 ga hB1 (hown.lower hB.size) (o2.below hb1) (o3.below hb1) (AptB.new o2 hown).symm (AptB.new o3 hown).symm e23 ⟨ha.1.below hb1 ha.1.lt, ha.2⟩ (OffB.new ha.1 hown) f2 f3
theorem nw_1100 (hQ : nwFin W gb v0 v2 Ah nh ch Am nm cm Q) (hP : ∀ c (d : Option Tmp) v a w, Q (.panic c) (a.put d v) w → Q (.panic c) a w) (HC : NwHyp W gb Ah nh ch Am nm cm) (w : World) (A1 : Option Addr) (c1 : Nat) (A2 : Option Addr) (c2 : Nat) (hB : Below W.heap.size W w) (o1 : OwnL w W.heap.size 4 bcell ⟨(List.replicate nh false), A1, c1⟩) (o2 : OwnL w W.heap.size 53 lcell ⟨(List.replicate nh (⟨[], none, 0⟩ : L Int)), A2, c2⟩) (e12 : AptB (⟨(List.replicate nh false), A1, c1⟩ : L Bool).v (⟨(List.replicate nh (⟨[], none, 0⟩ : L Int)), A2, c2⟩ : L (L Int)).v) :
    wpAnyH Tryz.prog .any nwops Q (fun w' => Below W.heap.size W w') 4 #[true, true, true, true, true, true, true, true, true, true, true, false, false, false, false] { tmps := #[v0, .pointer (some ⟨gb, 0, none⟩), v2, undef, undef, .pointer (some ⟨gb, 1, none⟩), .slice Ah nh ch, .int .i64 (nh : Nat), .slice A1 nh c1, .pointer (some ⟨gb, 1, none⟩), .slice Ah nh ch, .int .i64 (nh : Nat), .slice A2 nh c2, .pointer (some ⟨gb, 2, none⟩), .slice Am nm cm, .int .i64 (nm : Nat), undef, undef, undef, undef, undef, undef, undef, undef, undef, undef, undef, undef, undef, undef, undef, undef, undef, undef, undef, undef, undef, undef], defers := [] } w := by
  refine wpAnyH_ready (rs := [11, 13]) (by kernel_rfl) (by simp) ?_
  refine AllReadyH.cons (o := nwop11) rfl (fun K hK => ?_) (AllReadyH.cons (o := nwop13) rfl (fun K hK => ?_) AllReadyH.nil)
  · simp only [nwop11]
    obtain ⟨i0, hi, hz0, hz1, hz2⟩ := info_parts info_u32
    obtain ⟨w1, hrun, hrow, hgr⟩ := run_make_full (P := Tryz.prog) (w := w) w.heap.size 53 83 i0 _ 1 Tryz.underlying53 hi hz0 hz1 .i64 .i64 nm (by rw [hz2]; have := HC.m3; omega) (by unfold maxLen; have := HC.m3; omega) (Nat.le_refl _)
    obtain ⟨An, hAn⟩ : ∃ An, An = some (⟨w.heap.size, 0, none⟩ : Addr) := ⟨_, rfl⟩
    obtain ⟨cn, hcn⟩ : ∃ cn : Nat, cn = nm := ⟨_, rfl⟩
    have hown : OwnL w1 w.heap.size 83 ucell (⟨(List.replicate nm (0 : Int)), An, cn⟩ : L Int) := by
      rw [made_zero3] at hrow
      unfold OwnL
      subst hAn hcn
      simp only [L.v, List.length_replicate]
      exact hrow
    have hb1 := below_none hgr
    have hB1 := below_step hB hb1
    have hK2 := hK.out
    clear hK
    go_simp
    refine hK2 _ _ hB1 (fun _ => ?_)
    clear hK2 K
    try simp only [sA, sZ, sS]
    subst hAn hcn
    exact nw_1110 hQ hP w1 A1 c1 A2 c2 _ _ hB1 (o1.below hb1) (o2.below hb1) (hown.lower hB.size) e12 (AptB.new o1 hown) (AptB.new o2 hown)
  · simp only [nwop13]
    go_simp
    have hb1 := below1 w (.cells #[.slice none 0 0, .slice none 0 0, .slice none 0 0, .slice none 0 0] 56)
    have hB1 := below_step hB hb1
    refine hK.out _ _ hB1 (fun _ => ?_)
    clear hK K
    try simp only [sA, sZ, sS]
    exact nw_1101 hQ hP HC _ A1 c1 A2 c2 w.heap.size hB1 (o1.below hb1) (o2.below hb1) e12 ⟨Blk.new _ _ _, hB.size⟩ (OffB.old o1) (OffB.old o2)
theorem nw_1010 (hQ : nwFin W gb v0 v2 Ah nh ch Am nm cm Q) (hP : ∀ c (d : Option Tmp) v a w, Q (.panic c) (a.put d v) w → Q (.panic c) a w) (HC : NwHyp W gb Ah nh ch Am nm cm) (w : World) (A1 : Option Addr) (c1 : Nat) (A3 : Option Addr) (c3 : Nat) (hB : Below W.heap.size W w) (o1 : OwnL w W.heap.size 4 bcell ⟨(List.replicate nh false), A1, c1⟩) (o3 : OwnL w W.heap.size 83 ucell ⟨(List.replicate nm (0 : Int)), A3, c3⟩) (e13 : AptB (⟨(List.replicate nh false), A1, c1⟩ : L Bool).v (⟨(List.replicate nm (0 : Int)), A3, c3⟩ : L Int).v) :
    wpAnyH Tryz.prog .any nwops Q (fun w' => Below W.heap.size W w') 4 #[true, true, true, true, true, true, true, false, true, true, true, true, false, false, false] { tmps := #[v0, .pointer (some ⟨gb, 0, none⟩), v2, undef, undef, .pointer (some ⟨gb, 1, none⟩), .slice Ah nh ch, .int .i64 (nh : Nat), .slice A1 nh c1, .pointer (some ⟨gb, 1, none⟩), .slice Ah nh ch, .int .i64 (nh : Nat), undef, .pointer (some ⟨gb, 2, none⟩), .slice Am nm cm, .int .i64 (nm : Nat), .slice A3 nm c3, undef, undef, undef, undef, undef, undef, undef, undef, undef, undef, undef, undef, undef, undef, undef, undef, undef, undef, undef, undef, undef], defers := [] } w := by
  refine wpAnyH_ready (rs := [7, 13]) (by kernel_rfl) (by simp) ?_
  refine AllReadyH.cons (o := nwop7) rfl (fun K hK => ?_) (AllReadyH.cons (o := nwop13) rfl (fun K hK => ?_) AllReadyH.nil)
  · simp only [nwop7]
    obtain ⟨i0, hi, hz0, hz1, hz2⟩ := info_parts info_u32s
    obtain ⟨w1, hrun, hrow, hgr⟩ := run_make_full (P := Tryz.prog) (w := w) w.heap.size 52 53 i0 _ 1 Tryz.underlying52 hi hz0 hz1 .i64 .i64 nh (by rw [hz2]; have := HC.m2; omega) (by unfold maxLen; have := HC.m2; omega) (Nat.le_refl _)
    obtain ⟨An, hAn⟩ : ∃ An, An = some (⟨w.heap.size, 0, none⟩ : Addr) := ⟨_, rfl⟩
    obtain ⟨cn, hcn⟩ : ∃ cn : Nat, cn = nh := ⟨_, rfl⟩
    have hown : OwnL w1 w.heap.size 53 lcell (⟨(List.replicate nh (⟨[], none, 0⟩ : L Int)), An, cn⟩ : L (L Int)) := by
      rw [made_nils] at hrow
      unfold OwnL
      subst hAn hcn
      simp only [L.v, List.length_replicate]
      exact hrow
    have hb1 := below_none hgr
    have hB1 := below_step hB hb1
    have hK2 := hK.out
    clear hK
    go_simp
    refine hK2 _ _ hB1 (fun _ => ?_)
    clear hK2 K
    try simp only [sA, sZ, sS]
    subst hAn hcn
    exact nw_1110 hQ hP w1 A1 c1 _ _ A3 c3 hB1 (o1.below hb1) (hown.lower hB.size) (o3.below hb1) (AptB.new o1 hown) e13 (AptB.new o3 hown).symm
  · simp only [nwop13]
    go_simp
    have hb1 := below1 w (.cells #[.slice none 0 0, .slice none 0 0, .slice none 0 0, .slice none 0 0] 56)
    have hB1 := below_step hB hb1
    refine hK.out _ _ hB1 (fun _ => ?_)
    clear hK K
    try simp only [sA, sZ, sS]
    exact nw_1011 hQ hP HC _ A1 c1 A3 c3 w.heap.size hB1 (o1.below hb1) (o3.below hb1) e13 ⟨Blk.new _ _ _, hB.size⟩ (OffB.old o1) (OffB.old o3)
theorem nw_1001 (hQ : nwFin W gb v0 v2 Ah nh ch Am nm cm Q) (hP : ∀ c (d : Option Tmp) v a w, Q (.panic c) (a.put d v) w → Q (.panic c) a w) (HC : NwHyp W gb Ah nh ch Am nm cm) (w : World) (A1 : Option Addr) (c1 : Nat) (ga : Nat) (hB : Below W.heap.size W w) (o1 : OwnL w W.heap.size 4 bcell ⟨(List.replicate nh false), A1, c1⟩) (ha : Blk w ga 56 #[.slice none 0 0, .slice none 0 0, .slice none 0 0, .slice none 0 0] ∧ W.heap.size ≤ ga) (f1 : OffB ga (⟨(List.replicate nh false), A1, c1⟩ : L Bool).v) :
    wpAnyH Tryz.prog .any nwops Q (fun w' => Below W.heap.size W w') 4 #[true, true, true, true, true, true, true, false, true, true, true, false, false, true, false] { tmps := #[v0, .pointer (some ⟨gb, 0, none⟩), v2, .pointer (some ⟨ga, 0, none⟩), undef, .pointer (some ⟨gb, 1, none⟩), .slice Ah nh ch, .int .i64 (nh : Nat), .slice A1 nh c1, .pointer (some ⟨gb, 1, none⟩), .slice Ah nh ch, .int .i64 (nh : Nat), undef, .pointer (some ⟨gb, 2, none⟩), .slice Am nm cm, .int .i64 (nm : Nat), undef, undef, undef, undef, undef, undef, undef, undef, undef, undef, undef, undef, undef, undef, undef, undef, undef, undef, undef, undef, undef, undef], defers := [] } w := by
  refine wpAnyH_ready (rs := [7, 11]) (by kernel_rfl) (by simp) ?_
  refine AllReadyH.cons (o := nwop7) rfl (fun K hK => ?_) (AllReadyH.cons (o := nwop11) rfl (fun K hK => ?_) AllReadyH.nil)
  · simp only [nwop7]
    obtain ⟨i0, hi, hz0, hz1, hz2⟩ := info_parts info_u32s
    obtain ⟨w1, hrun, hrow, hgr⟩ := run_make_full (P := Tryz.prog) (w := w) w.heap.size 52 53 i0 _ 1 Tryz.underlying52 hi hz0 hz1 .i64 .i64 nh (by rw [hz2]; have := HC.m2; omega) (by unfold maxLen; have := HC.m2; omega) (Nat.le_refl _)
    obtain ⟨An, hAn⟩ : ∃ An, An = some (⟨w.heap.size, 0, none⟩ : Addr) := ⟨_, rfl⟩
    obtain ⟨cn, hcn⟩ : ∃ cn : Nat, cn = nh := ⟨_, rfl⟩
    have hown : OwnL w1 w.heap.size 53 lcell (⟨(List.replicate nh (⟨[], none, 0⟩ : L Int)), An, cn⟩ : L (L Int)) := by
      rw [made_nils] at hrow
      unfold OwnL
      subst hAn hcn
      simp only [L.v, List.length_replicate]
      exact hrow
    have hb1 := below_none hgr
    have hB1 := below_step hB hb1
    have hK2 := hK.out
    clear hK
    go_simp
    refine hK2 _ _ hB1 (fun _ => ?_)
    clear hK2 K
    try simp only [sA, sZ, sS]
    subst hAn hcn
    exact nw_1101 hQ hP HC w1 A1 c1 _ _ ga hB1 (o1.below hb1) (hown.lower hB.size) (AptB.new o1 hown) ⟨ha.1.below hb1 ha.1.lt, ha.2⟩ f1 (OffB.new ha.1 hown)
  · simp only [nwop11]
    obtain ⟨i0, hi, hz0, hz1, hz2⟩ := info_parts info_u32
    obtain ⟨w1, hrun, hrow, hgr⟩ := run_make_full (P := Tryz.prog) (w := w) w.heap.size 53 83 i0 _ 1 Tryz.underlying53 hi hz0 hz1 .i64 .i64 nm (by rw [hz2]; have := HC.m3; omega) (by unfold maxLen; have := HC.m3; omega) (Nat.le_refl _)
    obtain ⟨An, hAn⟩ : ∃ An, An = some (⟨w.heap.size, 0, none⟩ : Addr) := ⟨_, rfl⟩
    obtain ⟨cn, hcn⟩ : ∃ cn : Nat, cn = nm := ⟨_, rfl⟩
    have hown : OwnL w1 w.heap.size 83 ucell (⟨(List.replicate nm (0 : Int)), An, cn⟩ : L Int) := by
      rw [made_zero3] at hrow
      unfold OwnL
      subst hAn hcn
      simp only [L.v, List.length_replicate]
      exact hrow
    have hb1 := below_none hgr
    have hB1 := below_step hB hb1
    have hK2 := hK.out
    clear hK
    go_simp
    refine hK2 _ _ hB1 (fun _ => ?_)
    clear hK2 K
    try simp only [sA, sZ, sS]
    subst hAn hcn
    exact nw_1011 hQ hP HC w1 A1 c1 _ _ ga hB1 (o1.below hb1) (hown.lower hB.size) (AptB.new o1 hown) ⟨ha.1.below hb1 ha.1.lt, ha.2⟩ f1 (OffB.new ha.1 hown)
theorem nw_0110 (hQ : nwFin W gb v0 v2 Ah nh ch Am nm cm Q) (hP : ∀ c (d : Option Tmp) v a w, Q (.panic c) (a.put d v) w → Q (.panic c) a w) (HC : NwHyp W gb Ah nh ch Am nm cm) (w : World) (A2 : Option Addr) (c2 : Nat) (A3 : Option Addr) (c3 : Nat) (hB : Below W.heap.size W w) (o2 : OwnL w W.heap.size 53 lcell ⟨(List.replicate nh (⟨[], none, 0⟩ : L Int)), A2, c2⟩) (o3 : OwnL w W.heap.size 83 ucell ⟨(List.replicate nm (0 : Int)), A3, c3⟩) (e23 : AptB (⟨(List.replicate nh (⟨[], none, 0⟩ : L Int)), A2, c2⟩ : L (L Int)).v (⟨(List.replicate nm (0 : Int)), A3, c3⟩ : L Int).v) :
    wpAnyH Tryz.prog .any nwops Q (fun w' => Below W.heap.size W w') 4 #[true, true, true, false, true, true, true, true, true, true, true, true, false, false, false] { tmps := #[v0, .pointer (some ⟨gb, 0, none⟩), v2, undef, undef, .pointer (some ⟨gb, 1, none⟩), .slice Ah nh ch, .int .i64 (nh : Nat), undef, .pointer (some ⟨gb, 1, none⟩), .slice Ah nh ch, .int .i64 (nh : Nat), .slice A2 nh c2, .pointer (some ⟨gb, 2, none⟩), .slice Am nm cm, .int .i64 (nm : Nat), .slice A3 nm c3, undef, undef, undef, undef, undef, undef, undef, undef, undef, undef, undef, undef, undef, undef, undef, undef, undef, undef, undef, undef, undef], defers := [] } w := by
  refine wpAnyH_ready (rs := [3, 13]) (by kernel_rfl) (by simp) ?_
  refine AllReadyH.cons (o := nwop3) rfl (fun K hK => ?_) (AllReadyH.cons (o := nwop13) rfl (fun K hK => ?_) AllReadyH.nil)
  · simp only [nwop3]
    obtain ⟨i0, hi, hz0, hz1, hz2⟩ := info_parts info_bool
    obtain ⟨w1, hrun, hrow, hgr⟩ := run_make_full (P := Tryz.prog) (w := w) w.heap.size 51 4 i0 _ 1 Tryz.underlying51 hi hz0 hz1 .i64 .i64 nh (by rw [hz2]; have := HC.m1; omega) (by unfold maxLen; have := HC.m1; omega) (Nat.le_refl _)
    obtain ⟨An, hAn⟩ : ∃ An, An = some (⟨w.heap.size, 0, none⟩ : Addr) := ⟨_, rfl⟩
    obtain ⟨cn, hcn⟩ : ∃ cn : Nat, cn = nh := ⟨_, rfl⟩
    have hown : OwnL w1 w.heap.size 4 bcell (⟨(List.replicate nh false), An, cn⟩ : L Bool) := by
      rw [made_false] at hrow
      unfold OwnL
      subst hAn hcn
      simp only [L.v, List.length_replicate]
      exact hrow
    have hb1 := below_none hgr
    have hB1 := below_step hB hb1
    have hK2 := hK.out
    clear hK
    go_simp
    refine hK2 _ _ hB1 (fun _ => ?_)
    clear hK2 K
    try simp only [sA, sZ, sS]
    subst hAn hcn
    exact nw_1110 hQ hP w1 _ _ A2 c2 A3 c3 hB1 (hown.lower hB.size) (o2.below hb1) (o3.below hb1) (AptB.new o2 hown).symm (AptB.new o3 hown).symm e23
  · simp only [nwop13]
    go_simp
    have hb1 := below1 w (.cells #[.slice none 0 0, .slice none 0 0, .slice none 0 0, .slice none 0 0] 56)
    have hB1 := below_step hB hb1
    refine hK.out _ _ hB1 (fun _ => ?_)
    clear hK K
    try simp only [sA, sZ, sS]
    exact nw_0111 hQ hP HC _ A2 c2 A3 c3 w.heap.size hB1 (o2.below hb1) (o3.below hb1) e23 ⟨Blk.new _ _ _, hB.size⟩ (OffB.old o2) (OffB.old o3)
theorem nw_0101 (hQ : nwFin W gb v0 v2 Ah nh ch Am nm cm Q) (hP : ∀ c (d : Option Tmp) v a w, Q (.panic c) (a.put d v) w → Q (.panic c) a w) (HC : NwHyp W gb Ah nh ch Am nm cm) (w : World) (A2 : Option Addr) (c2 : Nat) (ga : Nat) (hB : Below W.heap.size W w) (o2 : OwnL w W.heap.size 53 lcell ⟨(List.replicate nh (⟨[], none, 0⟩ : L Int)), A2, c2⟩) (ha : Blk w ga 56 #[.slice none 0 0, .slice none 0 0, .slice none 0 0, .slice none 0 0] ∧ W.heap.size ≤ ga) (f2 : OffB ga (⟨(List.replicate nh (⟨[], none, 0⟩ : L Int)), A2, c2⟩ : L (L Int)).v) :
    wpAnyH Tryz.prog .any nwops Q (fun w' => Below W.heap.size W w') 4 #[true, true, true, false, true, true, true, true, true, true, true, false, false, true, false] { tmps := #[v0, .pointer (some ⟨gb, 0, none⟩), v2, .pointer (some ⟨ga, 0, none⟩), undef, .pointer (some ⟨gb, 1, none⟩), .slice Ah nh ch, .int .i64 (nh : Nat), undef, .pointer (some ⟨gb, 1, none⟩), .slice Ah nh ch, .int .i64 (nh : Nat), .slice A2 nh c2, .pointer (some ⟨gb, 2, none⟩), .slice Am nm cm, .int .i64 (nm : Nat), undef, undef, undef, undef, undef, undef, undef, undef, undef, undef, undef, undef, undef, undef, undef, undef, undef, undef, undef, undef, undef, undef], defers := [] } w := by
  refine wpAnyH_ready (rs := [3, 11]) (by kernel_rfl) (by simp) ?_
  refine AllReadyH.cons (o := nwop3) rfl (fun K hK => ?_) (AllReadyH.cons (o := nwop11) rfl (fun K hK => ?_) AllReadyH.nil)
  · simp only [nwop3]
    obtain ⟨i0, hi, hz0, hz1, hz2⟩ := info_parts info_bool
    obtain ⟨w1, hrun, hrow, hgr⟩ := run_make_full (P := Tryz.prog) (w := w) w.heap.size 51 4 i0 _ 1 Tryz.underlying51 hi hz0 hz1 .i64 .i64 nh (by rw [hz2]; have := HC.m1; omega) (by unfold maxLen; have := HC.m1; omega) (Nat.le_refl _)
    obtain ⟨An, hAn⟩ : ∃ An, An = some (⟨w.heap.size, 0, none⟩ : Addr) := ⟨_, rfl⟩
    obtain ⟨cn, hcn⟩ : ∃ cn : Nat, cn = nh := ⟨_, rfl⟩
    have hown : OwnL w1 w.heap.size 4 bcell (⟨(List.replicate nh false), An, cn⟩ : L Bool) := by
      rw [made_false] at hrow
      unfold OwnL
      subst hAn hcn
      simp only [L.v, List.length_replicate]
      exact hrow
    have hb1 := below_none hgr
    have hB1 := below_step hB hb1
    have hK2 := hK.out
    clear hK
    go_simp
    refine hK2 _ _ hB1 (fun _ => ?_)
    clear hK2 K
    try simp only [sA, sZ, sS]
    subst hAn hcn
    exact nw_1101 hQ hP HC w1 _ _ A2 c2 ga hB1 (hown.lower hB.size) (o2.below hb1) (AptB.new o2 hown).symm ⟨ha.1.below hb1 ha.1.lt, ha.2⟩ (OffB.new ha.1 hown) f2
  · simp only [nwop11]
    obtain ⟨i0, hi, hz0, hz1, hz2⟩ := info_parts info_u32
    obtain ⟨w1, hrun, hrow, hgr⟩ := run_make_full (P := Tryz.prog) (w := w) w.heap.size 53 83 i0 _ 1 Tryz.underlying53 hi hz0 hz1 .i64 .i64 nm (by rw [hz2]; have := HC.m3; omega) (by unfold maxLen; have := HC.m3; omega) (Nat.le_refl _)
    obtain ⟨An, hAn⟩ : ∃ An, An = some (⟨w.heap.size, 0, none⟩ : Addr) := ⟨_, rfl⟩
    obtain ⟨cn, hcn⟩ : ∃ cn : Nat, cn = nm := ⟨_, rfl⟩
    have hown : OwnL w1 w.heap.size 83 ucell (⟨(List.replicate nm (0 : Int)), An, cn⟩ : L Int) := by
      rw [made_zero3] at hrow
      unfold OwnL
      subst hAn hcn
      simp only [L.v, List.length_replicate]
      exact hrow
    have hb1 := below_none hgr
    have hB1 := below_step hB hb1
    have hK2 := hK.out
    clear hK
    go_simp
    refine hK2 _ _ hB1 (fun _ => ?_)
    clear hK2 K
    try simp only [sA, sZ, sS]
    subst hAn hcn
    exact nw_0111 hQ hP HC w1 A2 c2 _ _ ga hB1 (o2.below hb1) (hown.lower hB.size) (AptB.new o2 hown) ⟨ha.1.below hb1 ha.1.lt, ha.2⟩ f2 (OffB.new ha.1 hown)
theorem nw_0011 (hQ : nwFin W gb v0 v2 Ah nh ch Am nm cm Q) (hP : ∀ c (d : Option Tmp) v a w, Q (.panic c) (a.put d v) w → Q (.panic c) a w) (HC : NwHyp W gb Ah nh ch Am nm cm) (w : World) (A3 : Option Addr) (c3 : Nat) (ga : Nat) (hB : Below W.heap.size W w) (o3 : OwnL w W.heap.size 83 ucell ⟨(List.replicate nm (0 : Int)), A3, c3⟩) (ha : Blk w ga 56 #[.slice none 0 0, .slice none 0 0, .slice none 0 0, .slice none 0 0] ∧ W.heap.size ≤ ga) (f3 : OffB ga (⟨(List.replicate nm (0 : Int)), A3, c3⟩ : L Int).v) :
    wpAnyH Tryz.prog .any nwops Q (fun w' => Below W.heap.size W w') 4 #[true, true, true, false, true, true, true, false, true, true, true, true, false, true, false] { tmps := #[v0, .pointer (some ⟨gb, 0, none⟩), v2, .pointer (some ⟨ga, 0, none⟩), undef, .pointer (some ⟨gb, 1, none⟩), .slice Ah nh ch, .int .i64 (nh : Nat), undef, .pointer (some ⟨gb, 1, none⟩), .slice Ah nh ch, .int .i64 (nh : Nat), undef, .pointer (some ⟨gb, 2, none⟩), .slice Am nm cm, .int .i64 (nm : Nat), .slice A3 nm c3, undef, undef, undef, undef, undef, undef, undef, undef, undef, undef, undef, undef, undef, undef, undef, undef, undef, undef, undef, undef, undef], defers := [] } w := by
  refine wpAnyH_ready (rs := [3, 7]) (by kernel_rfl) (by simp) ?_
  refine AllReadyH.cons (o := nwop3) rfl (fun K hK => ?_) (AllReadyH.cons (o := nwop7) rfl (fun K hK => ?_) AllReadyH.nil)
  · simp only [nwop3]
    obtain ⟨i0, hi, hz0, hz1, hz2⟩ := info_parts info_bool
    obtain ⟨w1, hrun, hrow, hgr⟩ := run_make_full (P := Tryz.prog) (w := w) w.heap.size 51 4 i0 _ 1 Tryz.underlying51 hi hz0 hz1 .i64 .i64 nh (by rw [hz2]; have := HC.m1; omega) (by unfold maxLen; have := HC.m1; omega) (Nat.le_refl _)
    obtain ⟨An, hAn⟩ : ∃ An, An = some (⟨w.heap.size, 0, none⟩ : Addr) := ⟨_, rfl⟩
    obtain ⟨cn, hcn⟩ : ∃ cn : Nat, cn = nh := ⟨_, rfl⟩
    have hown : OwnL w1 w.heap.size 4 bcell (⟨(List.replicate nh false), An, cn⟩ : L Bool) := by
      rw [made_false] at hrow
      unfold OwnL
      subst hAn hcn
      simp only [L.v, List.length_replicate]
      exact hrow
    have hb1 := below_none hgr
    have hB1 := below_step hB hb1
    have hK2 := hK.out
    clear hK
    go_simp
    refine hK2 _ _ hB1 (fun _ => ?_)
    clear hK2 K
    try simp only [sA, sZ, sS]
    subst hAn hcn
    exact nw_1011 hQ hP HC w1 _ _ A3 c3 ga hB1 (hown.lower hB.size) (o3.below hb1) (AptB.new o3 hown).symm ⟨ha.1.below hb1 ha.1.lt, ha.2⟩ (OffB.new ha.1 hown) f3
  · simp only [nwop7]
    obtain ⟨i0, hi, hz0, hz1, hz2⟩ := info_parts info_u32s
    obtain ⟨w1, hrun, hrow, hgr⟩ := run_make_full (P := Tryz.prog) (w := w) w.heap.size 52 53 i0 _ 1 Tryz.underlying52 hi hz0 hz1 .i64 .i64 nh (by rw [hz2]; have := HC.m2; omega) (by unfold maxLen; have := HC.m2; omega) (Nat.le_refl _)
    obtain ⟨An, hAn⟩ : ∃ An, An = some (⟨w.heap.size, 0, none⟩ : Addr) := ⟨_, rfl⟩
    obtain ⟨cn, hcn⟩ : ∃ cn : Nat, cn = nh := ⟨_, rfl⟩
    have hown : OwnL w1 w.heap.size 53 lcell (⟨(List.replicate nh (⟨[], none, 0⟩ : L Int)), An, cn⟩ : L (L Int)) := by
      rw [made_nils] at hrow
      unfold OwnL
      subst hAn hcn
      simp only [L.v, List.length_replicate]
      exact hrow
    have hb1 := below_none hgr
    have hB1 := below_step hB hb1
    have hK2 := hK.out
    clear hK
    go_simp
    refine hK2 _ _ hB1 (fun _ => ?_)
    clear hK2 K
    try simp only [sA, sZ, sS]
    subst hAn hcn
    exact nw_0111 hQ hP HC w1 _ _ A3 c3 ga hB1 (hown.lower hB.size) (o3.below hb1) (AptB.new o3 hown).symm ⟨ha.1.below hb1 ha.1.lt, ha.2⟩ (OffB.new ha.1 hown) f3
theorem nw_1000 (hQ : nwFin W gb v0 v2 Ah nh ch Am nm cm Q) (hP : ∀ c (d : Option Tmp) v a w, Q (.panic c) (a.put d v) w → Q (.panic c) a w) (HC : NwHyp W gb Ah nh ch Am nm cm) (w : World) (A1 : Option Addr) (c1 : Nat) (hB : Below W.heap.size W w) (o1 : OwnL w W.heap.size 4 bcell ⟨(List.replicate nh false), A1, c1⟩) :
    wpAnyH Tryz.prog .any nwops Q (fun w' => Below W.heap.size W w') 5 #[true, true, true, true, true, true, true, false, true, true, true, false, false, false, false] { tmps := #[v0, .pointer (some ⟨gb, 0, none⟩), v2, undef, undef, .pointer (some ⟨gb, 1, none⟩), .slice Ah nh ch, .int .i64 (nh : Nat), .slice A1 nh c1, .pointer (some ⟨gb, 1, none⟩), .slice Ah nh ch, .int .i64 (nh : Nat), undef, .pointer (some ⟨gb, 2, none⟩), .slice Am nm cm, .int .i64 (nm : Nat), undef, undef, undef, undef, undef, undef, undef, undef, undef, undef, undef, undef, undef, undef, undef, undef, undef, undef, undef, undef, undef, undef], defers := [] } w := by
  refine wpAnyH_ready (rs := [7, 11, 13]) (by kernel_rfl) (by simp) ?_
  refine AllReadyH.cons (o := nwop7) rfl (fun K hK => ?_) (AllReadyH.cons (o := nwop11) rfl (fun K hK => ?_) (AllReadyH.cons (o := nwop13) rfl (fun K hK => ?_) AllReadyH.nil))
  · simp only [nwop7]
    obtain ⟨i0, hi, hz0, hz1, hz2⟩ := info_parts info_u32s
    obtain ⟨w1, hrun, hrow, hgr⟩ := run_make_full (P := Tryz.prog) (w := w) w.heap.size 52 53 i0 _ 1 Tryz.underlying52 hi hz0 hz1 .i64 .i64 nh (by rw [hz2]; have := HC.m2; omega) (by unfold maxLen; have := HC.m2; omega) (Nat.le_refl _)
    obtain ⟨An, hAn⟩ : ∃ An, An = some (⟨w.heap.size, 0, none⟩ : Addr) := ⟨_, rfl⟩
    obtain ⟨cn, hcn⟩ : ∃ cn : Nat, cn = nh := ⟨_, rfl⟩
    have hown : OwnL w1 w.heap.size 53 lcell (⟨(List.replicate nh (⟨[], none, 0⟩ : L Int)), An, cn⟩ : L (L Int)) := by
      rw [made_nils] at hrow
      unfold OwnL
      subst hAn hcn
      simp only [L.v, List.length_replicate]
      exact hrow
    have hb1 := below_none hgr
    have hB1 := below_step hB hb1
    have hK2 := hK.out
    clear hK
    go_simp
    refine hK2 _ _ hB1 (fun _ => ?_)
    clear hK2 K
    try simp only [sA, sZ, sS]
    subst hAn hcn
    exact nw_1100 hQ hP HC w1 A1 c1 _ _ hB1 (o1.below hb1) (hown.lower hB.size) (AptB.new o1 hown)
  · simp only [nwop11]
    obtain ⟨i0, hi, hz0, hz1, hz2⟩ := info_parts info_u32
    obtain ⟨w1, hrun, hrow, hgr⟩ := run_make_full (P := Tryz.prog) (w := w) w.heap.size 53 83 i0 _ 1 Tryz.underlying53 hi hz0 hz1 .i64 .i64 nm (by rw [hz2]; have := HC.m3; omega) (by unfold maxLen; have := HC.m3; omega) (Nat.le_refl _)
    obtain ⟨An, hAn⟩ : ∃ An, An = some (⟨w.heap.size, 0, none⟩ : Addr) := ⟨_, rfl⟩
    obtain ⟨cn, hcn⟩ : ∃ cn : Nat, cn = nm := ⟨_, rfl⟩
    have hown : OwnL w1 w.heap.size 83 ucell (⟨(List.replicate nm (0 : Int)), An, cn⟩ : L Int) := by
      rw [made_zero3] at hrow
      unfold OwnL
      subst hAn hcn
      simp only [L.v, List.length_replicate]
      exact hrow
    have hb1 := below_none hgr
    have hB1 := below_step hB hb1
    have hK2 := hK.out
    clear hK
    go_simp
    refine hK2 _ _ hB1 (fun _ => ?_)
    clear hK2 K
    try simp only [sA, sZ, sS]
    subst hAn hcn
    exact nw_1010 hQ hP HC w1 A1 c1 _ _ hB1 (o1.below hb1) (hown.lower hB.size) (AptB.new o1 hown)
  · simp only [nwop13]
    go_simp
    have hb1 := below1 w (.cells #[.slice none 0 0, .slice none 0 0, .slice none 0 0, .slice none 0 0] 56)
    have hB1 := below_step hB hb1
    refine hK.out _ _ hB1 (fun _ => ?_)
    clear hK K
    try simp only [sA, sZ, sS]
    exact nw_1001 hQ hP HC _ A1 c1 w.heap.size hB1 (o1.below hb1) ⟨Blk.new _ _ _, hB.size⟩ (OffB.old o1)
theorem nw_0100 (hQ : nwFin W gb v0 v2 Ah nh ch Am nm cm Q) (hP : ∀ c (d : Option Tmp) v a w, Q (.panic c) (a.put d v) w → Q (.panic c) a w) (HC : NwHyp W gb Ah nh ch Am nm cm) (w : World) (A2 : Option Addr) (c2 : Nat) (hB : Below W.heap.size W w) (o2 : OwnL w W.heap.size 53 lcell ⟨(List.replicate nh (⟨[], none, 0⟩ : L Int)), A2, c2⟩) :
    wpAnyH Tryz.prog .any nwops Q (fun w' => Below W.heap.size W w') 5 #[true, true, true, false, true, true, true, true, true, true, true, false, false, false, false] { tmps := #[v0, .pointer (some ⟨gb, 0, none⟩), v2, undef, undef, .pointer (some ⟨gb, 1, none⟩), .slice Ah nh ch, .int .i64 (nh : Nat), undef, .pointer (some ⟨gb, 1, none⟩), .slice Ah nh ch, .int .i64 (nh : Nat), .slice A2 nh c2, .pointer (some ⟨gb, 2, none⟩), .slice Am nm cm, .int .i64 (nm : Nat), undef, undef, undef, undef, undef, undef, undef, undef, undef, undef, undef, undef, undef, undef, undef, undef, undef, undef, undef, undef, undef, undef], defers := [] } w := by
  refine wpAnyH_ready (rs := [3, 11, 13]) (by kernel_rfl) (by simp) ?_
  refine AllReadyH.cons (o := nwop3) rfl (fun K hK => ?_) (AllReadyH.cons (o := nwop11) rfl (fun K hK => ?_) (AllReadyH.cons (o := nwop13) rfl (fun K hK => ?_) AllReadyH.nil))
  · simp only [nwop3]
    obtain ⟨i0, hi, hz0, hz1, hz2⟩ := info_parts info_bool
    obtain ⟨w1, hrun, hrow, hgr⟩ := run_make_full (P := Tryz.prog) (w := w) w.heap.size 51 4 i0 _ 1 Tryz.underlying51 hi hz0 hz1 .i64 .i64 nh (by rw [hz2]; have := HC.m1; omega) (by unfold maxLen; have := HC.m1; omega) (Nat.le_refl _)
    obtain ⟨An, hAn⟩ : ∃ An, An = some (⟨w.heap.size, 0, none⟩ : Addr) := ⟨_, rfl⟩
    obtain ⟨cn, hcn⟩ : ∃ cn : Nat, cn = nh := ⟨_, rfl⟩
    have hown : OwnL w1 w.heap.size 4 bcell (⟨(List.replicate nh false), An, cn⟩ : L Bool) := by
      rw [made_false] at hrow
      unfold OwnL
      subst hAn hcn
      simp only [L.v, List.length_replicate]
      exact hrow
    have hb1 := below_none hgr
    have hB1 := below_step hB hb1
    have hK2 := hK.out
    clear hK
    go_simp
    refine hK2 _ _ hB1 (fun _ => ?_)
    clear hK2 K
    try simp only [sA, sZ, sS]
    subst hAn hcn
    exact nw_1100 hQ hP HC w1 _ _ A2 c2 hB1 (hown.lower hB.size) (o2.below hb1) (AptB.new o2 hown).symm
  · simp only [nwop11]
    obtain ⟨i0, hi, hz0, hz1, hz2⟩ := info_parts info_u32
    obtain ⟨w1, hrun, hrow, hgr⟩ := run_make_full (P := Tryz.prog) (w := w) w.heap.size 53 83 i0 _ 1 Tryz.underlying53 hi hz0 hz1 .i64 .i64 nm (by rw [hz2]; have := HC.m3; omega) (by unfold maxLen; have := HC.m3; omega) (Nat.le_refl _)
    obtain ⟨An, hAn⟩ : ∃ An, An = some (⟨w.heap.size, 0, none⟩ : Addr) := ⟨_, rfl⟩
    obtain ⟨cn, hcn⟩ : ∃ cn : Nat, cn = nm := ⟨_, rfl⟩
    have hown : OwnL w1 w.heap.size 83 ucell (⟨(List.replicate nm (0 : Int)), An, cn⟩ : L Int) := by
      rw [made_zero3] at hrow
      unfold OwnL
      subst hAn hcn
      simp only [L.v, List.length_replicate]
      exact hrow
    have hb1 := below_none hgr
    have hB1 := below_step hB hb1
    have hK2 := hK.out
    clear hK
    go_simp
    refine hK2 _ _ hB1 (fun _ => ?_)
    clear hK2 K
    try simp only [sA, sZ, sS]
    subst hAn hcn
    exact nw_0110 hQ hP HC w1 A2 c2 _ _ hB1 (o2.below hb1) (hown.lower hB.size) (AptB.new o2 hown)
  · simp only [nwop13]
    go_simp
    have hb1 := below1 w (.cells #[.slice none 0 0, .slice none 0 0, .slice none 0 0, .slice none 0 0] 56)
    have hB1 := below_step hB hb1
    refine hK.out _ _ hB1 (fun _ => ?_)
    clear hK K
    try simp only [sA, sZ, sS]
    exact nw_0101 hQ hP HC _ A2 c2 w.heap.size hB1 (o2.below hb1) ⟨Blk.new _ _ _, hB.size⟩ (OffB.old o2)
theorem nw_0010 (hQ : nwFin W gb v0 v2 Ah nh ch Am nm cm Q) (hP : ∀ c (d : Option Tmp) v a w, Q (.panic c) (a.put d v) w → Q (.panic c) a w) (HC : NwHyp W gb Ah nh ch Am nm cm) (w : World) (A3 : Option Addr) (c3 : Nat) (hB : Below W.heap.size W w) (o3 : OwnL w W.heap.size 83 ucell ⟨(List.replicate nm (0 : Int)), A3, c3⟩) :
    wpAnyH Tryz.prog .any nwops Q (fun w' => Below W.heap.size W w') 5 #[true, true, true, false, true, true, true, false, true, true, true, true, false, false, false] { tmps := #[v0, .pointer (some ⟨gb, 0, none⟩), v2, undef, undef, .pointer (some ⟨gb, 1, none⟩), .slice Ah nh ch, .int .i64 (nh : Nat), undef, .pointer (some ⟨gb, 1, none⟩), .slice Ah nh ch, .int .i64 (nh : Nat), undef, .pointer (some ⟨gb, 2, none⟩), .slice Am nm cm, .int .i64 (nm : Nat), .slice A3 nm c3, undef, undef, undef, undef, undef, undef, undef, undef, undef, undef, undef, undef, undef, undef, undef, undef, undef, undef, undef, undef, undef], defers := [] } w := by
  refine wpAnyH_ready (rs := [3, 7, 13]) (by kernel_rfl) (by simp) ?_
  refine AllReadyH.cons (o := nwop3) rfl (fun K hK => ?_) (AllReadyH.cons (o := nwop7) rfl (fun K hK => ?_) (AllReadyH.cons (o := nwop13) rfl (fun K hK => ?_) AllReadyH.nil))
  · simp only [nwop3]
    obtain ⟨i0, hi, hz0, hz1, hz2⟩ := info_parts info_bool
    obtain ⟨w1, hrun, hrow, hgr⟩ := run_make_full (P := Tryz.prog) (w := w) w.heap.size 51 4 i0 _ 1 Tryz.underlying51 hi hz0 hz1 .i64 .i64 nh (by rw [hz2]; have := HC.m1; omega) (by unfold maxLen; have := HC.m1; omega) (Nat.le_refl _)
    obtain ⟨An, hAn⟩ : ∃ An, An = some (⟨w.heap.size, 0, none⟩ : Addr) := ⟨_, rfl⟩
    obtain ⟨cn, hcn⟩ : ∃ cn : Nat, cn = nh := ⟨_, rfl⟩
    have hown : OwnL w1 w.heap.size 4 bcell (⟨(List.replicate nh false), An, cn⟩ : L Bool) := by
      rw [made_false] at hrow
      unfold OwnL
      subst hAn hcn
      simp only [L.v, List.length_replicate]
      exact hrow
    have hb1 := below_none hgr
    have hB1 := below_step hB hb1
    have hK2 := hK.out
    clear hK
    go_simp
    refine hK2 _ _ hB1 (fun _ => ?_)
    clear hK2 K
    try simp only [sA, sZ, sS]
    subst hAn hcn
    exact nw_1010 hQ hP HC w1 _ _ A3 c3 hB1 (hown.lower hB.size) (o3.below hb1) (AptB.new o3 hown).symm
  · simp only [nwop7]
    obtain ⟨i0, hi, hz0, hz1, hz2⟩ := info_parts info_u32s
    obtain ⟨w1, hrun, hrow, hgr⟩ := run_make_full (P := Tryz.prog) (w := w) w.heap.size 52 53 i0 _ 1 Tryz.underlying52 hi hz0 hz1 .i64 .i64 nh (by rw [hz2]; have := HC.m2; omega) (by unfold maxLen; have := HC.m2; omega) (Nat.le_refl _)
    obtain ⟨An, hAn⟩ : ∃ An, An = some (⟨w.heap.size, 0, none⟩ : Addr) := ⟨_, rfl⟩
    obtain ⟨cn, hcn⟩ : ∃ cn : Nat, cn = nh := ⟨_, rfl⟩
    have hown : OwnL w1 w.heap.size 53 lcell (⟨(List.replicate nh (⟨[], none, 0⟩ : L Int)), An, cn⟩ : L (L Int)) := by
      rw [made_nils] at hrow
      unfold OwnL
      subst hAn hcn
      simp only [L.v, List.length_replicate]
      exact hrow
    have hb1 := below_none hgr
    have hB1 := below_step hB hb1
    have hK2 := hK.out
    clear hK
    go_simp
    refine hK2 _ _ hB1 (fun _ => ?_)
    clear hK2 K
    try simp only [sA, sZ, sS]
    subst hAn hcn
    exact nw_0110 hQ hP HC w1 _ _ A3 c3 hB1 (hown.lower hB.size) (o3.below hb1) (AptB.new o3 hown).symm
  · simp only [nwop13]
    go_simp
    have hb1 := below1 w (.cells #[.slice none 0 0, .slice none 0 0, .slice none 0 0, .slice none 0 0] 56)
    have hB1 := below_step hB hb1
    refine hK.out _ _ hB1 (fun _ => ?_)
    clear hK K
    try simp only [sA, sZ, sS]
    exact nw_0011 hQ hP HC _ A3 c3 w.heap.size hB1 (o3.below hb1) ⟨Blk.new _ _ _, hB.size⟩ (OffB.old o3)
theorem nw_0001 (hQ : nwFin W gb v0 v2 Ah nh ch Am nm cm Q) (hP : ∀ c (d : Option Tmp) v a w, Q (.panic c) (a.put d v) w → Q (.panic c) a w) (HC : NwHyp W gb Ah nh ch Am nm cm) (w : World) (ga : Nat) (hB : Below W.heap.size W w) (ha : Blk w ga 56 #[.slice none 0 0, .slice none 0 0, .slice none 0 0, .slice none 0 0] ∧ W.heap.size ≤ ga) :
    wpAnyH Tryz.prog .any nwops Q (fun w' => Below W.heap.size W w') 5 #[true, true, true, false, true, true, true, false, true, true, true, false, false, true, false] { tmps := #[v0, .pointer (some ⟨gb, 0, none⟩), v2, .pointer (some ⟨ga, 0, none⟩), undef, .pointer (some ⟨gb, 1, none⟩), .slice Ah nh ch, .int .i64 (nh : Nat), undef, .pointer (some ⟨gb, 1, none⟩), .slice Ah nh ch, .int .i64 (nh : Nat), undef, .pointer (some ⟨gb, 2, none⟩), .slice Am nm cm, .int .i64 (nm : Nat), undef, undef, undef, undef, undef, undef, undef, undef, undef, undef, undef, undef, undef, undef, undef, undef, undef, undef, undef, undef, undef, undef], defers := [] } w := by
  refine wpAnyH_ready (rs := [3, 7, 11]) (by kernel_rfl) (by simp) ?_
  refine AllReadyH.cons (o := nwop3) rfl (fun K hK => ?_) (AllReadyH.cons (o := nwop7) rfl (fun K hK => ?_) (AllReadyH.cons (o := nwop11) rfl (fun K hK => ?_) AllReadyH.nil))
  · simp only [nwop3]
    obtain ⟨i0, hi, hz0, hz1, hz2⟩ := info_parts info_bool
    obtain ⟨w1, hrun, hrow, hgr⟩ := run_make_full (P := Tryz.prog) (w := w) w.heap.size 51 4 i0 _ 1 Tryz.underlying51 hi hz0 hz1 .i64 .i64 nh (by rw [hz2]; have := HC.m1; omega) (by unfold maxLen; have := HC.m1; omega) (Nat.le_refl _)
    obtain ⟨An, hAn⟩ : ∃ An, An = some (⟨w.heap.size, 0, none⟩ : Addr) := ⟨_, rfl⟩
    obtain ⟨cn, hcn⟩ : ∃ cn : Nat, cn = nh := ⟨_, rfl⟩
    have hown : OwnL w1 w.heap.size 4 bcell (⟨(List.replicate nh false), An, cn⟩ : L Bool) := by
      rw [made_false] at hrow
      unfold OwnL
      subst hAn hcn
      simp only [L.v, List.length_replicate]
      exact hrow
    have hb1 := below_none hgr
    have hB1 := below_step hB hb1
    have hK2 := hK.out
    clear hK
    go_simp
    refine hK2 _ _ hB1 (fun _ => ?_)
    clear hK2 K
    try simp only [sA, sZ, sS]
    subst hAn hcn
    exact nw_1001 hQ hP HC w1 _ _ ga hB1 (hown.lower hB.size) ⟨ha.1.below hb1 ha.1.lt, ha.2⟩ (OffB.new ha.1 hown)
  · simp only [nwop7]
    obtain ⟨i0, hi, hz0, hz1, hz2⟩ := info_parts info_u32s
    obtain ⟨w1, hrun, hrow, hgr⟩ := run_make_full (P := Tryz.prog) (w := w) w.heap.size 52 53 i0 _ 1 Tryz.underlying52 hi hz0 hz1 .i64 .i64 nh (by rw [hz2]; have := HC.m2; omega) (by unfold maxLen; have := HC.m2; omega) (Nat.le_refl _)
    obtain ⟨An, hAn⟩ : ∃ An, An = some (⟨w.heap.size, 0, none⟩ : Addr) := ⟨_, rfl⟩
    obtain ⟨cn, hcn⟩ : ∃ cn : Nat, cn = nh := ⟨_, rfl⟩
    have hown : OwnL w1 w.heap.size 53 lcell (⟨(List.replicate nh (⟨[], none, 0⟩ : L Int)), An, cn⟩ : L (L Int)) := by
      rw [made_nils] at hrow
      unfold OwnL
      subst hAn hcn
      simp only [L.v, List.length_replicate]
      exact hrow
    have hb1 := below_none hgr
    have hB1 := below_step hB hb1
    have hK2 := hK.out
    clear hK
    go_simp
    refine hK2 _ _ hB1 (fun _ => ?_)
    clear hK2 K
    try simp only [sA, sZ, sS]
    subst hAn hcn
    exact nw_0101 hQ hP HC w1 _ _ ga hB1 (hown.lower hB.size) ⟨ha.1.below hb1 ha.1.lt, ha.2⟩ (OffB.new ha.1 hown)
  · simp only [nwop11]
    obtain ⟨i0, hi, hz0, hz1, hz2⟩ := info_parts info_u32
    obtain ⟨w1, hrun, hrow, hgr⟩ := run_make_full (P := Tryz.prog) (w := w) w.heap.size 53 83 i0 _ 1 Tryz.underlying53 hi hz0 hz1 .i64 .i64 nm (by rw [hz2]; have := HC.m3; omega) (by unfold maxLen; have := HC.m3; omega) (Nat.le_refl _)
    obtain ⟨An, hAn⟩ : ∃ An, An = some (⟨w.heap.size, 0, none⟩ : Addr) := ⟨_, rfl⟩
    obtain ⟨cn, hcn⟩ : ∃ cn : Nat, cn = nm := ⟨_, rfl⟩
    have hown : OwnL w1 w.heap.size 83 ucell (⟨(List.replicate nm (0 : Int)), An, cn⟩ : L Int) := by
      rw [made_zero3] at hrow
      unfold OwnL
      subst hAn hcn
      simp only [L.v, List.length_replicate]
      exact hrow
    have hb1 := below_none hgr
    have hB1 := below_step hB hb1
    have hK2 := hK.out
    clear hK
    go_simp
    refine hK2 _ _ hB1 (fun _ => ?_)
    clear hK2 K
    try simp only [sA, sZ, sS]
    subst hAn hcn
    exact nw_0011 hQ hP HC w1 _ _ ga hB1 (hown.lower hB.size) ⟨ha.1.below hb1 ha.1.lt, ha.2⟩ (OffB.new ha.1 hown)
theorem nw_0000 (hQ : nwFin W gb v0 v2 Ah nh ch Am nm cm Q) (hP : ∀ c (d : Option Tmp) v a w, Q (.panic c) (a.put d v) w → Q (.panic c) a w) (HC : NwHyp W gb Ah nh ch Am nm cm) (w : World) (hB : Below W.heap.size W w) :
    wpAnyH Tryz.prog .any nwops Q (fun w' => Below W.heap.size W w') 6 #[true, true, true, false, true, true, true, false, true, true, true, false, false, false, false] { tmps := #[v0, .pointer (some ⟨gb, 0, none⟩), v2, undef, undef, .pointer (some ⟨gb, 1, none⟩), .slice Ah nh ch, .int .i64 (nh : Nat), undef, .pointer (some ⟨gb, 1, none⟩), .slice Ah nh ch, .int .i64 (nh : Nat), undef, .pointer (some ⟨gb, 2, none⟩), .slice Am nm cm, .int .i64 (nm : Nat), undef, undef, undef, undef, undef, undef, undef, undef, undef, undef, undef, undef, undef, undef, undef, undef, undef, undef, undef, undef, undef, undef], defers := [] } w := by
  refine wpAnyH_ready (rs := [3, 7, 11, 13]) (by kernel_rfl) (by simp) ?_
  refine AllReadyH.cons (o := nwop3) rfl (fun K hK => ?_) (AllReadyH.cons (o := nwop7) rfl (fun K hK => ?_) (AllReadyH.cons (o := nwop11) rfl (fun K hK => ?_) (AllReadyH.cons (o := nwop13) rfl (fun K hK => ?_) AllReadyH.nil)))
  · simp only [nwop3]
    obtain ⟨i0, hi, hz0, hz1, hz2⟩ := info_parts info_bool
    obtain ⟨w1, hrun, hrow, hgr⟩ := run_make_full (P := Tryz.prog) (w := w) w.heap.size 51 4 i0 _ 1 Tryz.underlying51 hi hz0 hz1 .i64 .i64 nh (by rw [hz2]; have := HC.m1; omega) (by unfold maxLen; have := HC.m1; omega) (Nat.le_refl _)
    obtain ⟨An, hAn⟩ : ∃ An, An = some (⟨w.heap.size, 0, none⟩ : Addr) := ⟨_, rfl⟩
    obtain ⟨cn, hcn⟩ : ∃ cn : Nat, cn = nh := ⟨_, rfl⟩
    have hown : OwnL w1 w.heap.size 4 bcell (⟨(List.replicate nh false), An, cn⟩ : L Bool) := by
      rw [made_false] at hrow
      unfold OwnL
      subst hAn hcn
      simp only [L.v, List.length_replicate]
      exact hrow
    have hb1 := below_none hgr
    have hB1 := below_step hB hb1
    have hK2 := hK.out
    clear hK
    go_simp
    refine hK2 _ _ hB1 (fun _ => ?_)
    clear hK2 K
    try simp only [sA, sZ, sS]
    subst hAn hcn
    exact nw_1000 hQ hP HC w1 _ _ hB1 (hown.lower hB.size)
  · simp only [nwop7]
    obtain ⟨i0, hi, hz0, hz1, hz2⟩ := info_parts info_u32s
    obtain ⟨w1, hrun, hrow, hgr⟩ := run_make_full (P := Tryz.prog) (w := w) w.heap.size 52 53 i0 _ 1 Tryz.underlying52 hi hz0 hz1 .i64 .i64 nh (by rw [hz2]; have := HC.m2; omega) (by unfold maxLen; have := HC.m2; omega) (Nat.le_refl _)
    obtain ⟨An, hAn⟩ : ∃ An, An = some (⟨w.heap.size, 0, none⟩ : Addr) := ⟨_, rfl⟩
    obtain ⟨cn, hcn⟩ : ∃ cn : Nat, cn = nh := ⟨_, rfl⟩
    have hown : OwnL w1 w.heap.size 53 lcell (⟨(List.replicate nh (⟨[], none, 0⟩ : L Int)), An, cn⟩ : L (L Int)) := by
      rw [made_nils] at hrow
      unfold OwnL
      subst hAn hcn
      simp only [L.v, List.length_replicate]
      exact hrow
    have hb1 := below_none hgr
    have hB1 := below_step hB hb1
    have hK2 := hK.out
    clear hK
    go_simp
    refine hK2 _ _ hB1 (fun _ => ?_)
    clear hK2 K
    try simp only [sA, sZ, sS]
    subst hAn hcn
    exact nw_0100 hQ hP HC w1 _ _ hB1 (hown.lower hB.size)
  · simp only [nwop11]
    obtain ⟨i0, hi, hz0, hz1, hz2⟩ := info_parts info_u32
    obtain ⟨w1, hrun, hrow, hgr⟩ := run_make_full (P := Tryz.prog) (w := w) w.heap.size 53 83 i0 _ 1 Tryz.underlying53 hi hz0 hz1 .i64 .i64 nm (by rw [hz2]; have := HC.m3; omega) (by unfold maxLen; have := HC.m3; omega) (Nat.le_refl _)
    obtain ⟨An, hAn⟩ : ∃ An, An = some (⟨w.heap.size, 0, none⟩ : Addr) := ⟨_, rfl⟩
    obtain ⟨cn, hcn⟩ : ∃ cn : Nat, cn = nm := ⟨_, rfl⟩
    have hown : OwnL w1 w.heap.size 83 ucell (⟨(List.replicate nm (0 : Int)), An, cn⟩ : L Int) := by
      rw [made_zero3] at hrow
      unfold OwnL
      subst hAn hcn
      simp only [L.v, List.length_replicate]
      exact hrow
    have hb1 := below_none hgr
    have hB1 := below_step hB hb1
    have hK2 := hK.out
    clear hK
    go_simp
    refine hK2 _ _ hB1 (fun _ => ?_)
    clear hK2 K
    try simp only [sA, sZ, sS]
    subst hAn hcn
    exact nw_0010 hQ hP HC w1 _ _ hB1 (hown.lower hB.size)
  · simp only [nwop13]
    go_simp
    have hb1 := below1 w (.cells #[.slice none 0 0, .slice none 0 0, .slice none 0 0, .slice none 0 0] 56)
    have hB1 := below_step hB hb1
    refine hK.out _ _ hB1 (fun _ => ?_)
    clear hK K
    try simp only [sA, sZ, sS]
    exact nw_0001 hQ hP HC _ w.heap.size hB1 ⟨Blk.new _ _ _, hB.size⟩
theorem nw_region (HC : NwHyp W gb Ah nh ch Am nm cm) (hP : ∀ c (d : Option Tmp) v a w, Q (.panic c) (a.put d v) w → Q (.panic c) a w) (hQ : nwFin W gb v0 v2 Ah nh ch Am nm cm Q) :
    (Code.region 1 nwops true).wp Tryz.prog Q { tmps := #[v0, .pointer (some ⟨gb, 0, none⟩), v2, undef, undef, undef, undef, undef, undef, undef, undef, undef, undef, undef, undef, undef, undef, undef, undef, undef, undef, undef, undef, undef, undef, undef, undef, undef, undef, undef, undef, undef, undef, undef, undef, undef, undef, undef], defers := [] } W := by
  have q1 := HC.k1
  have q2 := HC.k2
  refine wp_region_held_drew (S := (fun w' => Below W.heap.size W w')) (by kernel_rfl) (below_drew (Below.refl _ _)) (fun hHeld => ?_)
  refine wpAnyH_take (i := 0) (oi := nwop0) (v := ?t3v) rfl (by kernel_rfl) (by kernel_rfl) (by kernel_rfl) (fun c a w h => hP c _ _ a w h) (Or.inl ⟨by rfl, ?t3y⟩) (by assumption) ?t3r
  case t3y => (intro w hSw; (try dsimp only at hSw); simp only [nwop0]; go_simp; try (with_reducible rfl))
  try simp only [Act.put, nwop0, sA, sZ, sS]
  refine wpAnyH_take (i := 1) (oi := nwop1) (v := ?t4v) rfl (by kernel_rfl) (by kernel_rfl) (by kernel_rfl) (fun c a w h => hP c _ _ a w h) (Or.inl ⟨by rfl, ?t4y⟩) (by assumption) ?t4r
  case t4y => (intro w hSw; (try dsimp only at hSw); simp only [nwop1]; go_simp; try (with_reducible rfl))
  try simp only [Act.put, nwop1, sA, sZ, sS]
  refine wpAnyH_take (i := 2) (oi := nwop2) (v := ?t5v) rfl (by kernel_rfl) (by kernel_rfl) (by kernel_rfl) (fun c a w h => hP c _ _ a w h) (Or.inl ⟨by rfl, ?t5y⟩) (by assumption) ?t5r
  case t5y => (intro w hSw; (try dsimp only at hSw); simp only [nwop2]; go_simp; try (with_reducible rfl))
  try simp only [Act.put, nwop2, sA, sZ, sS]
  refine wpAnyH_take (i := 4) (oi := nwop4) (v := ?t6v) rfl (by kernel_rfl) (by kernel_rfl) (by kernel_rfl) (fun c a w h => hP c _ _ a w h) (Or.inl ⟨by rfl, ?t6y⟩) (by assumption) ?t6r
  case t6y => (intro w hSw; (try dsimp only at hSw); simp only [nwop4]; go_simp; try (with_reducible rfl))
  try simp only [Act.put, nwop4, sA, sZ, sS]
  refine wpAnyH_take (i := 5) (oi := nwop5) (v := ?t7v) rfl (by kernel_rfl) (by kernel_rfl) (by kernel_rfl) (fun c a w h => hP c _ _ a w h) (Or.inl ⟨by rfl, ?t7y⟩) (by assumption) ?t7r
  case t7y => (intro w hSw; (try dsimp only at hSw); simp only [nwop5]; go_simp; try (with_reducible rfl))
  try simp only [Act.put, nwop5, sA, sZ, sS]
  refine wpAnyH_take (i := 6) (oi := nwop6) (v := ?t8v) rfl (by kernel_rfl) (by kernel_rfl) (by kernel_rfl) (fun c a w h => hP c _ _ a w h) (Or.inl ⟨by rfl, ?t8y⟩) (by assumption) ?t8r
  case t8y => (intro w hSw; (try dsimp only at hSw); simp only [nwop6]; go_simp; try (with_reducible rfl))
  try simp only [Act.put, nwop6, sA, sZ, sS]
  refine wpAnyH_take (i := 8) (oi := nwop8) (v := ?t9v) rfl (by kernel_rfl) (by kernel_rfl) (by kernel_rfl) (fun c a w h => hP c _ _ a w h) (Or.inl ⟨by rfl, ?t9y⟩) (by assumption) ?t9r
  case t9y => (intro w hSw; (try dsimp only at hSw); simp only [nwop8]; go_simp; try (with_reducible rfl))
  try simp only [Act.put, nwop8, sA, sZ, sS]
  refine wpAnyH_take (i := 9) (oi := nwop9) (v := ?t10v) rfl (by kernel_rfl) (by kernel_rfl) (by kernel_rfl) (fun c a w h => hP c _ _ a w h) (Or.inl ⟨by rfl, ?t10y⟩) (by assumption) ?t10r
  case t10y => (intro w hSw; (try dsimp only at hSw); simp only [nwop9]; go_simp; try (with_reducible rfl))
  try simp only [Act.put, nwop9, sA, sZ, sS]
  refine wpAnyH_take (i := 10) (oi := nwop10) (v := ?t11v) rfl (by kernel_rfl) (by kernel_rfl) (by kernel_rfl) (fun c a w h => hP c _ _ a w h) (Or.inl ⟨by rfl, ?t11y⟩) (by assumption) ?t11r
  case t11y => (intro w hSw; (try dsimp only at hSw); simp only [nwop10]; go_simp; try (with_reducible rfl))
  try simp only [Act.put, nwop10, sA, sZ, sS]
  exact nw_0000 hQ hP HC _ hHeld
end
theorem EnvBlk.setRow {w0 w1 : World} {B ga gf k : Nat} {e : EnvD} {x : L Int} (h : EnvBlk w0 B ga e) (hB : B ≤ w0.heap.size) (hb : Below w0.heap.size w0 w1) (o1 : OwnL w1 w0.heap.size 83 ucell x) (hA : e.fields.A = some ⟨gf, 0, none⟩) :
    EnvBlk (w1.setCell ⟨gf, k, none⟩ x.v) B ga ⟨e.valid, ⟨e.fields.l.set k x, e.fields.A, e.fields.c⟩, e.metaV, e.payload⟩ := by
  have h1 := h.below hb
  obtain ⟨⟨hv0, hf0, hx0, hm0, hp0, _⟩, hk0, _, _, _, _, _⟩ := h
  obtain ⟨⟨hv, hf, hx, hm, hp, ⟨vm, vp, mp, vf, mf, pf, xv, xm, xp, xf, xx⟩⟩, hk1, ov, om, op, of, ox⟩ := h1
  have hg : e.fields.v.ownBlock = some gf := by rw [L.v, hA]; rfl
  have far : ∀ {t : TypeId} {α : Type} {cells : α → List Value} {y : L α}, OwnL w1 B t cells y → AptB y.v e.fields.v → OwnL (w1.setCell ⟨gf, k, none⟩ x.v) B t cells y := fun {t α cells y} ho ha => ho.far _ (fun e1 => ha gf e1 hg)
  have hl1 := fun b e => o1.lt b e
  have hfv : (⟨e.fields.l.set k x, e.fields.A, e.fields.c⟩ : L (L Int)).v = e.fields.v := by simp [L.v]
  have new : ∀ {t : TypeId} {α : Type} {cells : α → List Value} {y : L α}, OwnL w0 B t cells y → AptB x.v y.v := fun {t α cells y} ho b e1 e2 => by
    have a := (ho.lt b e2).2; have c := hl1 b e1; omega
  have hset : ∀ y ∈ e.fields.l.set k x, y = x ∨ y ∈ e.fields.l := fun y hy => by
    obtain ⟨j, hj, rfl⟩ := List.getElem_of_mem hy
    rw [List.length_set] at hj
    rw [List.getElem_set]
    split
    · exact .inl rfl
    · exact .inr (List.getElem_mem hj)
  have hP : ∀ {P : Value → Prop}, P x.v → (∀ y ∈ e.fields.l, P y.v) → ∀ y ∈ e.fields.l.set k x, P y.v := fun {P} h1 h2 y hy => by
    rcases hset y hy with rfl | h3
    · exact h1
    · exact h2 y h3
  refine ⟨⟨far hv vf, ?_, fun y hy => ?_, far hm mf, far hp pf, ⟨vm, vp, mp, by rw [hfv]; exact vf, by rw [hfv]; exact mf, by rw [hfv]; exact pf,
    hP (P := fun q => AptB q e.valid.v) (new hv0) xv, hP (P := fun q => AptB q e.metaV.v) (new hm0) xm, hP (P := fun q => AptB q e.payload.v) (new hp0) xp, fun y hy => (by rw [hfv]; exact hP (P := fun q => AptB q e.fields.v) (new hf0) xf y hy), ?_⟩⟩, ?_, ov, om, op, ?_, ?_⟩
  · have h4 := hf
    rcases hmv : e.fields with ⟨ml, mA, mc⟩
    rw [hmv] at h4 hA
    simp only at hA ⊢
    subst hA
    exact OwnL.put (fun y : L Int => y.v) (fun _ => rfl) h4 k x
  · rcases hset y hy with rfl | h3
    · exact (o1.lower hB).far _ (fun e1 => by have a := (hf0.lt gf hg).2; have c := hl1 gf e1; omega)
    · exact far (hx y h3) (xf y h3)
  · refine List.pairwise_iff_getElem.2 fun i j hi hj hij => ?_
    rw [List.length_set] at hi hj
    rw [List.getElem_set, List.getElem_set]
    split
    · split
      · omega
      · exact new (hx0 _ (List.getElem_mem hj))
    · split
      · exact AptB.symm (new (hx0 _ (List.getElem_mem hi)))
      · exact List.pairwise_iff_getElem.1 xx i j hi hj hij
  · have h9 := hk1.far (p := ⟨gf, k, none⟩) (by show ga ≠ gf; exact fun e1 => of gf hg e1.symm) x.v
    have e9 : envCells ⟨e.valid, ⟨e.fields.l.set k x, e.fields.A, e.fields.c⟩, e.metaV, e.payload⟩ = envCells e := by simp [envCells]
    rw [e9]
    exact h9
  · rw [hfv]; exact of
  · exact hP (P := fun q => OffB ga q) (fun b e1 e2 => by have a := hk0.lt; have c := hl1 b e1; omega) ox
theorem below_drew_none {w w' : World} (h : w.drew.grownBy w' none) : Below w.heap.size w w' := ⟨h.os, h.tape, h.output, h.size, fun i hi => h.block i hi (by simp)⟩
def newL (p : ProgD) (k i : Nat) : List Int := if i < k then List.replicate (nF p i) 0 else []
theorem envNew_any (p : ProgD) (w : World) (o : ProgOk w p) (hs : AccSm p) :
    Calls Tryz.prog 67 #[.agg (progCells p)] w fun r w' => ∃ e', r = .returned (.agg (envCells e')) ∧ e'.bare = newE p ∧ EnvMine w' w.heap.size e' ∧ e'.payload = ⟨[], none, 0⟩ ∧ Below w.heap.size w w' := by
  obtain ⟨W, hW⟩ : ∃ W, W = (w.alloc (.cells (progCells p) 31)).alloc (.cells #[.slice none 0 0, .slice none 0 0, .slice none 0 0, .slice none 0 0] 56) := ⟨_, rfl⟩
  have hw : Below w.heap.size w W := by rw [hW]; exact below2 _ _ _
  have HW := hi_ hw
  have HSz : Hid (W.heap.size = w.heap.size + 1 + 1) := hi_ (by rw [hW]; simp)
  have HP : Hid (Blk W w.heap.size 31 (progCells p)) := hi_ (by rw [hW]; exact (Blk.new _ _ _).alloc _)
  have HZ : Hid (Blk W (w.heap.size + 1) 56 #[.slice none 0 0, .slice none 0 0, .slice none 0 0, .slice none 0 0]) := hi_ (by rw [hW]; simpa using Blk.new (w.alloc (.cells (progCells p) 31)) 56 #[.slice none 0 0, .slice none 0 0, .slice none 0 0, .slice none 0 0])
  have HO := hi_ (o.headers.below hw (Nat.le_refl _))
  have hH := hs.headers
  have hM := hs.metadata
  have HFS := hi_ hs.fields
  have HF : Hid (∀ k (h : k < p.headers.l.length), nF p k = p.headers.l[k].fields.l.length) := hi_ (fun k h => nF_at h)
  have HC : Hid (NwHyp W w.heap.size p.headers.A p.headers.l.length p.headers.c p.metadata.A p.metadata.l.length p.metadata.c) := Lib.hid
    ⟨fun u h => (HP.out.below h HP.out.lt).cell 1, fun u h => (HP.out.below h HP.out.lt).cell 2, by omega, by omega, by omega⟩
  have HS1 : Hid (∀ u, Below W.heap.size W u → u.cell? ⟨w.heap.size, 1, none⟩ = some (.slice p.headers.A p.headers.l.length p.headers.c)) := hi_ (fun u h => (HP.out.below h HP.out.lt).cell 1)
  clear o hs hw
  obtain ⟨hn, hhn⟩ : ∃ hn, hn = p.headers.l.length := ⟨_, rfl⟩
  obtain ⟨mn, hmn⟩ : ∃ mn, mn = p.metadata.l.length := ⟨_, rfl⟩
  have HHn := hi_ hhn
  have HMn := hi_ hmn
  rw [← hhn, ← hmn] at HC
  rw [← hhn] at HS1 hH
  rw [← hmn] at hM
  clear hhn hmn
  go_enter Tryz.func67, Tryz.ntmps67
  go_upto_region 1 with fail
  rw [← hW]
  clear hW
  refine nw_region HC.out (fun _ d _ _ _ h => by cases d <;> exact h) ?_
  rintro w1 A1 c1 A2 c2 A3 c3 ga hB o1 o2 o3 e12 e13 e23 ⟨hbk, hga⟩ f1 f2 f3
  have HI : Hid (EnvBlk w1 W.heap.size ga ⟨⟨List.replicate hn false, A1, c1⟩, ⟨List.replicate hn ⟨[], none, 0⟩, A2, c2⟩, ⟨List.replicate mn 0, A3, c3⟩, ⟨[], none, 0⟩⟩) := hi_ (by
    have hr : ∀ x ∈ List.replicate hn (⟨[], none, 0⟩ : L Int), x = ⟨[], none, 0⟩ := fun x hx => (List.mem_replicate.1 hx).2
    refine ⟨⟨o1, o2, fun x hx => (by rw [hr x hx]; exact World.ownsRow_nil _ _ _ _), o3, World.ownsRow_nil _ _ _ _, ⟨e13, fun b _ h => (by cases h), fun b _ h => (by cases h), e12, AptB.symm e23, fun b h _ => (by cases h), fun x hx b h => (by rw [hr x hx] at h; cases h), fun x hx b h => (by rw [hr x hx] at h; cases h), fun x hx b h => (by rw [hr x hx] at h; cases h), fun x hx b h => (by rw [hr x hx] at h; cases h), ?_⟩⟩, ?_, f1, f3, fun b h => (by cases h), f2, fun x hx b h => (by rw [hr x hx] at h; cases h)⟩
    · refine List.pairwise_iff_getElem.2 fun i j hi hj hij b h => ?_
      rw [List.getElem_replicate] at h
      cases h
    · simpa [envCells] using hbk)
  have HB1 := hi_ hB
  have HG0 : Hid (W.heap.size ≤ ga) := hi_ hga
  have s1 := HS1.out w1 hB
  clear hB o1 o2 o3 e12 e13 e23 hbk hga f1 f2 f3 HC
  go_wp2
  clear s1
  go_loopw [4, 21] (fun _ iv wr => ∃ (k : Nat) (lf : List (L Int)), k ≤ hn ∧ iv = .int .i64 k ∧ Hid (lf.map L.l = (List.range hn).map (newL p k)) ∧ Hid (EnvBlk wr W.heap.size ga ⟨⟨List.replicate hn false, A1, c1⟩, ⟨lf, A2, c2⟩, ⟨List.replicate mn 0, A3, c3⟩, ⟨[], none, 0⟩⟩) ∧ Below W.heap.size W wr) (fun _ i _ => hn - (intOf i).toNat)
  case atStart => exact ⟨0, List.replicate hn ⟨[], none, 0⟩, Nat.zero_le _, rfl, hi_ (by
    rw [List.map_replicate]
    refine List.ext_getElem? fun i => ?_
    rw [List.getElem?_replicate, List.getElem?_map]
    by_cases hi : i < hn
    · simp [hi, newL]
    · simp [hi]), HI, HB1.out⟩
  case round =>
  obtain ⟨k, lf, hk, rfl, HM, HK, HB⟩ := hrel
  have hlf : lf.length = hn := by have := congrArg List.length HM.out; simpa using this
  by_cases hlt : k < hn
  case neg =>
    have HBare : Hid ((⟨⟨List.replicate hn false, A1, c1⟩, ⟨lf, A2, c2⟩, ⟨List.replicate mn 0, A3, c3⟩, ⟨[], none, 0⟩⟩ : EnvD).bare = newE p) := hi_ (by
      have h1 : k = hn := by omega
      subst h1
      unfold newE stateE EnvD.bare
      rw [← HHn.out, ← HMn.out, HM.out]
      congr 1
      · refine List.ext_getElem? fun i => ?_
        rw [List.getElem?_replicate, List.getElem?_map]
        by_cases hi : i < k <;> simp [hi]
      · refine List.map_congr_left fun i hi => ?_
        rw [newL, if_pos (List.mem_range.1 hi)]
        refine List.ext_getElem? fun j => ?_
        rw [List.getElem?_replicate, List.getElem?_map]
        by_cases hj : j < nF p i <;> simp [hj]
      · refine List.ext_getElem? fun i => ?_
        rw [List.getElem?_replicate, List.getElem?_map]
        by_cases hi : i < mn <;> simp [hi])
    have HLn : Hid ((List.replicate hn false).length = hn ∧ (List.replicate mn (0 : Int)).length = mn) := hi_ ⟨by simp, by simp⟩
    have k0 : wr.cell? ⟨ga, 0, none⟩ = some (.slice A1 hn c1) := by have := HK.out.blk.cell 0; simpa [envCells] using this
    have k1 : wr.cell? ⟨ga, 1, none⟩ = some (.slice A2 hn c2) := by have := HK.out.blk.cell 1; rw [← hlf]; exact this
    have k2 : wr.cell? ⟨ga, 2, none⟩ = some (.slice A3 mn c3) := by have := HK.out.blk.cell 2; simpa [envCells] using this
    have k3 : wr.cell? ⟨ga, 3, none⟩ = some (.slice none 0 0) := HK.out.blk.cell 3
    have HZ1 := hi_ (HZ.out.below HB HZ.out.lt)
    have z0 : wr.cell? ⟨w.heap.size + 1, 0, none⟩ = some (.slice none 0 0) := HZ1.out.cell 0
    have z1 : wr.cell? ⟨w.heap.size + 1, 1, none⟩ = some (.slice none 0 0) := HZ1.out.cell 1
    have z2 : wr.cell? ⟨w.heap.size + 1, 2, none⟩ = some (.slice none 0 0) := HZ1.out.cell 2
    have z3 : wr.cell? ⟨w.heap.size + 1, 3, none⟩ = some (.slice none 0 0) := HZ1.out.cell 3
    have zf : ∀ j, wr.frozen? ⟨w.heap.size + 1, j, none⟩ = false := fun j => HZ1.out.frozen j
    have HBc := hi_ HB
    have HLf := hi_ hlf
    clear HB hlf
    go_wp2
    try rw [Exit.noGoto_ret]
    try simp only [Exit.jump]
    refine bodyPost_ret (v := .agg #[.slice A1 hn c1, .slice A2 hn c2, .slice A3 mn c3, .slice none 0 0]) ?_ rfl ?_
    · refine results_cell_row (fn := Tryz.f67) (p := 2) (ty := 56) rfl _ _ (w.heap.size + 1) 56 #[.slice A1 hn c1, .slice A2 hn c2, .slice A3 mn c3, .slice none 0 0] (0, 0) _ rfl ?_ Tryz.underlying56 rfl (by kernel_rfl)
      exact (((HZ1.out.set_ 0 _).set_ 1 _).set_ 2 _).set_ 3 _
    · have hsz := HSz.out
      have hle : w.heap.size ≤ w.heap.size + 1 := by omega
      have h9 : ∀ (x y z u : Value), EnvMine ((((wr.setCell ⟨w.heap.size + 1, 0, none⟩ x).setCell ⟨w.heap.size + 1, 1, none⟩ y).setCell ⟨w.heap.size + 1, 2, none⟩ z).setCell ⟨w.heap.size + 1, 3, none⟩ u) w.heap.size ⟨⟨List.replicate hn false, A1, c1⟩, ⟨lf, A2, c2⟩, ⟨List.replicate mn 0, A3, c3⟩, ⟨[], none, 0⟩⟩ := fun x y z u => by
        have hh : ∀ {t : TypeId} {α : Type} {cells : α → List Value} {q : L α}, OwnL wr W.heap.size t cells q → OwnL ((((wr.setCell ⟨w.heap.size + 1, 0, none⟩ x).setCell ⟨w.heap.size + 1, 1, none⟩ y).setCell ⟨w.heap.size + 1, 2, none⟩ z).setCell ⟨w.heap.size + 1, 3, none⟩ u) w.heap.size t cells q := fun {t α cells q} ho => (ho.four (fun b e1 e2 => by have := (ho.lt b e1).1; omega) x y z u).lower (by omega)
        exact ⟨hh HK.out.env.valid, hh HK.out.env.fields, fun x hx => hh (HK.out.env.each x hx), hh HK.out.env.metaV, hh HK.out.env.payload, HK.out.env.apt⟩
      exact ⟨_, by simp [envCells, HLf.out], HBare.out, h9 _ _ _ _, rfl, ((((below_step HW.out HBc.out).setCell hle _).setCell hle _).setCell hle _).setCell hle _⟩
  have hlk : k < p.headers.l.length := by rw [← HHn.out]; exact hlt
  obtain ⟨g0, of0, hA, hall⟩ := HeaderD.atA HO.out hlk
  have HHA := hi_ hA
  have hd1 := fun u (h : Below W.heap.size W u) => (hall u h).2
  have hn1 := HF.out k hlk
  have hn2 := HFS.out k
  rw [← hn1] at hd1
  obtain ⟨gf, hAf, hgf1, hgf2⟩ := HK.out.env.fields.at (fun e1 => by have e2 : lf = [] := e1; rw [e2] at hlf; simp at hlf; omega)
  simp only at hAf
  have HAf := hi_ hAf
  have hn3 : nF p k ≤ 100 := hn2
  obtain ⟨n, hnn⟩ : ∃ n, n = nF p k := ⟨_, rfl⟩
  rw [← hnn] at hd1 hn3
  have HNn := hi_ hnn
  generalize p.headers.l[k].fields.A = xA at *
  generalize p.headers.l[k].fields.c = xc at *
  obtain ⟨i0, hi, hz0, hz1, hz2⟩ := info_parts info_u32
  obtain ⟨hc, hhc⟩ : ∃ hc, hc = p.headers.c := ⟨_, rfl⟩
  have hS1c : ∀ u, Below W.heap.size W u → u.cell? ⟨w.heap.size, 1, none⟩ = some (.slice (some ⟨g0, of0, none⟩) hn hc) := fun u h => by rw [hhc, ← hA]; exact HS1.out u h
  have hk1 : ∀ u, Below wr.heap.size wr u → u.cell? ⟨ga, 1, none⟩ = some (.slice (some ⟨gf, 0, none⟩) hn c2) := fun u h => by rw [← hAf, ← hlf]; exact (HK.out.blk.below h HK.out.blk.lt).cell 1
  obtain ⟨fn, hfn⟩ : ∃ fn, fn = hn := ⟨_, rfl⟩
  obtain ⟨fcap, hfc⟩ : ∃ fcap, fcap = c2 := ⟨_, rfl⟩
  rw [← hfn, ← hfc] at hk1
  have hkf : k < lf.length := by omega
  have hgane : ga ≠ gf := fun e1 => HK.out.of gf (by rw [L.v, hAf]; rfl) e1.symm
  have hS0 : wr.drew.cell? ⟨ga, 1, none⟩ = some (.slice (some ⟨gf, 0, none⟩) fn fcap) ∧ wr.drew.cell? ⟨w.heap.size, 1, none⟩ = some (.slice (some ⟨g0, of0, none⟩) hn hc) ∧ wr.drew.cell? ⟨g0, of0 + k * 2 + 1, none⟩ = some (.slice xA n xc) :=
    ⟨hk1 wr (Below.refl _ _), hS1c wr HB, hd1 wr HB⟩
  have hgW : W.heap.size ≤ gf := hgf1
  have hg0W : g0 < W.heap.size := by
    have h9 := hd1 W (Below.refl _ _)
    exact World.block_lt_of_cell? W _ h9
  have HAll : Hid (∀ w1, Below wr.heap.size wr w1 → w1.ownsRow wr.heap.size 83 1 (.slice (some ⟨wr.drew.heap.size, 0, none⟩) n n) n (madeCells (Value.int .u32 0).cells (n * 1)).toList →
      (w1.cell? ⟨ga, 1, none⟩ = some (.slice (some ⟨gf, 0, none⟩) fn fcap) ∧ w1.cell? ⟨w.heap.size, 1, none⟩ = some (.slice (some ⟨g0, of0, none⟩) hn hc) ∧ w1.cell? ⟨g0, of0 + k * 2 + 1, none⟩ = some (.slice xA n xc)) ∧ True ∧ True ∧
      (∃ y : L Int, w1.cell? ⟨gf, k, none⟩ = some y.v) ∧ w1.frozen? ⟨gf, k, none⟩ = false ∧
      ((fun w' => w'.cell? ⟨ga, 1, none⟩ = some (.slice (some ⟨gf, 0, none⟩) fn fcap) ∧ w'.cell? ⟨w.heap.size, 1, none⟩ = some (.slice (some ⟨g0, of0, none⟩) hn hc) ∧ w'.cell? ⟨g0, of0 + k * 2 + 1, none⟩ = some (.slice xA n xc)) (w1.setCell ⟨gf, k, none⟩ (.slice (some ⟨wr.drew.heap.size, 0, none⟩) n n)) ∧
       Hid (EnvBlk (w1.setCell ⟨gf, k, none⟩ (.slice (some ⟨wr.drew.heap.size, 0, none⟩) n n)) W.heap.size ga ⟨⟨List.replicate hn false, A1, c1⟩, ⟨lf.set k ⟨List.replicate n 0, some ⟨wr.drew.heap.size, 0, none⟩, n⟩, A2, c2⟩, ⟨List.replicate mn 0, A3, c3⟩, ⟨[], none, 0⟩⟩) ∧
       Hid (Below W.heap.size W (w1.setCell ⟨gf, k, none⟩ (.slice (some ⟨wr.drew.heap.size, 0, none⟩) n n))))) := hi_ (fun w1 hb1 hrow => by
    have hBz := below_step HB hb1
    have a1 := hk1 w1 hb1
    have a2 := hS1c w1 hBz
    have a3 := hd1 w1 hBz
    refine ⟨⟨a1, a2, a3⟩, trivial, trivial, ?_, ?_, ⟨?_, ?_, ?_⟩, hi_ ?_, hi_ (hBz.setCell (by exact hgW) _)⟩
    · have h9 := HK.out.env.fields.below hb1
      subst hAf
      obtain ⟨g', o', e1, d1⟩ := lcell_at (h9.ok (fun _ => rfl)).1 hkf
      simp only at e1
      injection e1 with e1
      injection e1 with e1 e2
      subst e1 e2
      rw [Nat.zero_add] at d1
      exact ⟨_, d1⟩
    · have h9 := HK.out.env.fields.below hb1
      subst hAf
      exact h9.frozen k
    · rw [World.cell?_setCell_far _ _ _ _ (by show gf ≠ ga; exact fun e => hgane e.symm)]; exact a1
    · rw [World.cell?_setCell_far _ _ _ _ (by show gf ≠ w.heap.size; have := HSz.out; omega)]; exact a2
    · rw [World.cell?_setCell_far _ _ _ _ (by show gf ≠ g0; omega)]; exact a3
    · have hown : OwnL w1 wr.heap.size 83 ucell ⟨List.replicate n 0, some ⟨wr.drew.heap.size, 0, none⟩, n⟩ := by
        rw [made_zero3] at hrow
        unfold OwnL
        simp only [L.v, List.length_replicate]
        exact hrow
      have h9 := HK.out.setRow (k := k) HB.size hb1 hown hAf
      simp only [L.v, List.length_replicate] at h9
      exact h9)
  have HM2 : Hid (∀ x : L Int, x.l = List.replicate n 0 → (lf.set k x).map L.l = (List.range hn).map (newL p (k + 1))) := hi_ (fun x hx => by
    rw [List.map_set, HM.out, hx]
    refine List.ext_getElem? fun i => ?_
    by_cases hi : i = k
    · subst hi
      rw [List.getElem?_set_self (by simpa using hlt), List.getElem?_map, List.getElem?_range hlt]
      simp [newL, HNn.out]
    · rw [List.getElem?_set_ne (by omega), List.getElem?_map, List.getElem?_map]
      by_cases h9 : i < hn
      · simp [h9, newL]
        by_cases h8 : i < k
        · rw [if_pos h8, if_pos (by omega)]
        · rw [if_neg h8, if_neg (by omega)]
      · simp [h9])
  have hkn : (k : Int) < (fn : Int) := by omega
  have hkh : (k : Int) < (hn : Int) := by omega
  have HBr := hi_ HB
  clear hA hall hd1 hn1 hn2 hAf hgf1 hgf2 hnn hhc hS1c hk1 hkf hgane hgW hg0W HB hlk hfn hfc hlf HHA HAf
  go_upto_region 5 with fail
  refine wp_region_held_drew (S := (fun w' => w'.cell? ⟨ga, 1, none⟩ = some (.slice (some ⟨gf, 0, none⟩) fn fcap) ∧ w'.cell? ⟨w.heap.size, 1, none⟩ = some (.slice (some ⟨g0, of0, none⟩) hn hc) ∧ w'.cell? ⟨g0, of0 + k * 2 + 1, none⟩ = some (.slice xA n xc))) (by kernel_rfl) hS0 (fun hHeld => ?_)
  refine wpAnyH_take (i := 0) (oi := { dst := some 24, op := Op.fieldAddr 56 (Operand.tmp 3) 1, type := 0, pos := "env.go:45", after := #[], guard := none }) (v := ?s0v) rfl (by kernel_rfl) (by kernel_rfl) (by kernel_rfl) (fun _ _ _ h => h) (Or.inl ⟨by rfl, ?s0y⟩) (by assumption) ?s0r
  case s0y => (intro w hSw; obtain ⟨t1, t2, t3⟩ := hSw; go_simp; try (with_reducible rfl))
  try simp only [Act.put, sA, sZ, sS]
  refine wpAnyH_take (i := 1) (oi := { dst := some 25, op := Op.load 52 (Operand.tmp 24), type := 52, pos := "env.go:45", after := #[{ on := 0, ground := Ground.data }], guard := none }) (v := ?s1v) rfl (by kernel_rfl) (by kernel_rfl) (by kernel_rfl) (fun _ _ _ h => h) (Or.inl ⟨by rfl, ?s1y⟩) (by assumption) ?s1r
  case s1y => (intro w hSw; obtain ⟨t1, t2, t3⟩ := hSw; go_simp; try (with_reducible rfl))
  try simp only [Act.put, sA, sZ, sS]
  refine wpAnyH_take (i := 2) (oi := { dst := some 26, op := Op.move (Operand.tmp 4), type := 3, pos := "env.go:45", after := #[], guard := none }) (v := ?s2v) rfl (by kernel_rfl) (by kernel_rfl) (by kernel_rfl) (fun _ _ _ h => h) (Or.inl ⟨by rfl, ?s2y⟩) (by assumption) ?s2r
  case s2y => (intro w hSw; obtain ⟨t1, t2, t3⟩ := hSw; go_simp; try (with_reducible rfl))
  try simp only [Act.put, sA, sZ, sS]
  refine wpAnyH_take (i := 3) (oi := { dst := some 27, op := Op.fieldAddr 31 (Operand.tmp 1) 1, type := 0, pos := "env.go:45", after := #[], guard := none }) (v := ?s3v) rfl (by kernel_rfl) (by kernel_rfl) (by kernel_rfl) (fun _ _ _ h => h) (Or.inl ⟨by rfl, ?s3y⟩) (by assumption) ?s3r
  case s3y => (intro w hSw; obtain ⟨t1, t2, t3⟩ := hSw; go_simp; try (with_reducible rfl))
  try simp only [Act.put, sA, sZ, sS]
  refine wpAnyH_take (i := 4) (oi := { dst := some 28, op := Op.load 22 (Operand.tmp 27), type := 22, pos := "env.go:45", after := #[{ on := 3, ground := Ground.data }], guard := none }) (v := ?s4v) rfl (by kernel_rfl) (by kernel_rfl) (by kernel_rfl) (fun _ _ _ h => h) (Or.inl ⟨by rfl, ?s4y⟩) (by assumption) ?s4r
  case s4y => (intro w hSw; obtain ⟨t1, t2, t3⟩ := hSw; go_simp; try (with_reducible rfl))
  try simp only [Act.put, sA, sZ, sS]
  refine wpAnyH_take (i := 5) (oi := { dst := some 29, op := Op.move (Operand.tmp 4), type := 3, pos := "env.go:45", after := #[], guard := none }) (v := ?s5v) rfl (by kernel_rfl) (by kernel_rfl) (by kernel_rfl) (fun _ _ _ h => h) (Or.inl ⟨by rfl, ?s5y⟩) (by assumption) ?s5r
  case s5y => (intro w hSw; obtain ⟨t1, t2, t3⟩ := hSw; go_simp; try (with_reducible rfl))
  try simp only [Act.put, sA, sZ, sS]
  refine wpAnyH_take (i := 6) (oi := { dst := some 30, op := Op.indexAddr 22 (Operand.tmp 28) (Operand.tmp 29), type := 0, pos := "env.go:45", after := #[{ on := 4, ground := Ground.data }, { on := 5, ground := Ground.data }], guard := none }) (v := ?s6v) rfl (by kernel_rfl) (by kernel_rfl) (by kernel_rfl) (fun _ _ _ h => h) (Or.inl ⟨by rfl, ?s6y⟩) (by assumption) ?s6r
  case s6y => (intro w hSw; obtain ⟨t1, t2, t3⟩ := hSw; go_simp; try (with_reducible rfl))
  try simp only [Act.put, sA, sZ, sS]
  refine wpAnyH_take (i := 7) (oi := { dst := some 31, op := Op.fieldAddr 96 (Operand.tmp 30) 1, type := 0, pos := "env.go:45", after := #[{ on := 6, ground := Ground.data }], guard := none }) (v := ?s7v) rfl (by kernel_rfl) (by kernel_rfl) (by kernel_rfl) (fun _ _ _ h => h) (Or.inl ⟨by rfl, ?s7y⟩) (by assumption) ?s7r
  case s7y => (intro w hSw; obtain ⟨t1, t2, t3⟩ := hSw; go_simp; try (with_reducible rfl))
  try simp only [Act.put, sA, sZ, sS]
  refine wpAnyH_take (i := 8) (oi := { dst := some 32, op := Op.load 23 (Operand.tmp 31), type := 23, pos := "env.go:45", after := #[{ on := 7, ground := Ground.data }], guard := none }) (v := ?s8v) rfl (by kernel_rfl) (by kernel_rfl) (by kernel_rfl) (fun _ _ _ h => h) (Or.inl ⟨by rfl, ?s8y⟩) (by assumption) ?s8r
  case s8y => (intro w hSw; obtain ⟨t1, t2, t3⟩ := hSw; go_simp; try (with_reducible rfl))
  try simp only [Act.put, sA, sZ, sS]
  refine wpAnyH_take (i := 9) (oi := { dst := some 33, op := Op.call { callee := Callee.builtin Builtin.len, args := #[Operand.tmp 32], argTypes := #[23] }, type := 3, pos := "env.go:45", after := #[{ on := 8, ground := Ground.data }], guard := none }) (v := ?s9v) rfl (by kernel_rfl) (by kernel_rfl) (by kernel_rfl) (fun _ _ _ h => h) (Or.inl ⟨by rfl, ?s9y⟩) (by assumption) ?s9r
  case s9y => (intro w hSw; obtain ⟨t1, t2, t3⟩ := hSw; go_simp; try (with_reducible rfl))
  try simp only [Act.put, sA, sZ, sS]
  refine wpAnyH_ready (rs := [10]) (by kernel_rfl) (by simp) ?_
  refine AllReadyH.cons (o := { dst := some 34, op := Op.makeSlice 53 (Operand.tmp 33) (Operand.tmp 33), type := 53, pos := "env.go:45", after := #[{ on := 9, ground := Ground.data }, { on := 9, ground := Ground.data }], guard := none }) rfl (fun K hK => ?_) AllReadyH.nil
  obtain ⟨w1, hrun, hrow, hgr⟩ := run_make_full (P := Tryz.prog) (w := wr.drew) wr.heap.size 53 83 i0 _ 1 Tryz.underlying53 hi hz0 hz1 .i64 .i64 n (by rw [hz2]; omega) (by unfold maxLen; omega) (Nat.le_refl _)
  obtain ⟨hS1, HI1, HB1, hcell, hfroz, HPut⟩ := HAll.out w1 (below_drew_none hgr) hrow
  have hK2 := hK.out
  clear hK
  go_simp
  refine hK2 _ _ hS1 (fun hHeld2 => ?_)
  clear hK2 K hrun
  try simp only [Act.put, sA, sZ, sS]
  refine wpAnyH_take (i := 11) (oi := { dst := some 35, op := Op.indexAddr 52 (Operand.tmp 25) (Operand.tmp 26), type := 0, pos := "env.go:45", after := #[{ on := 1, ground := Ground.data }, { on := 2, ground := Ground.data }, { on := 0, ground := Ground.phase }, { on := 1, ground := Ground.phase }, { on := 2, ground := Ground.phase }, { on := 3, ground := Ground.phase }, { on := 4, ground := Ground.phase }, { on := 5, ground := Ground.phase }, { on := 6, ground := Ground.phase }, { on := 7, ground := Ground.phase }, { on := 8, ground := Ground.phase }, { on := 9, ground := Ground.phase }, { on := 10, ground := Ground.phase }], guard := none }) (v := ?s11v) rfl (by kernel_rfl) (by kernel_rfl) (by kernel_rfl) (fun _ _ _ h => h) (Or.inl ⟨by rfl, ?s11y⟩) (by assumption) ?s11r
  case s11y => (intro w hSw; obtain ⟨t1, t2, t3⟩ := hSw; go_simp; try (with_reducible rfl))
  try simp only [Act.put, sA, sZ, sS]
  refine wpAnyH_ready (rs := [12]) (by kernel_rfl) (by simp) ?_
  refine AllReadyH.cons (o := { dst := none, op := Op.store 53 (Operand.tmp 35) (Operand.tmp 34), type := 0, pos := "env.go:45", after := #[{ on := 11, ground := Ground.data }, { on := 10, ground := Ground.data }, { on := 0, ground := Ground.phase }, { on := 1, ground := Ground.phase }, { on := 2, ground := Ground.phase }, { on := 3, ground := Ground.phase }, { on := 4, ground := Ground.phase }, { on := 5, ground := Ground.phase }, { on := 6, ground := Ground.phase }, { on := 7, ground := Ground.phase }, { on := 8, ground := Ground.phase }, { on := 9, ground := Ground.phase }, { on := 10, ground := Ground.phase }], guard := none }) rfl (fun K hK => ?_) AllReadyH.nil
  obtain ⟨hS2, HK2, HB2⟩ := HPut
  obtain ⟨y0, hcell⟩ := hcell
  have hK2 := hK.out
  clear hK
  go_simp
  refine hK2 _ _ hS2 (fun hHeld3 => ?_)
  clear hK2 K
  try simp only [Act.put, sA, sZ, sS]
  refine wpAnyH_done (by kernel_rfl) ?_ _
  clear hHeld hHeld2 hHeld3 hS1 HI1 HB1 hcell hfroz hS2 hrow hgr
  go_wp2
  go_roundw
  case rel => exact ⟨k + 1, _, by omega, by go_num, hi_ (HM2.out _ rfl), HK2, HB2.out⟩
  case measure => simp [intOf]; omega
theorem held_all (l : List SlotD) (c : ConM) (N k : Nat) (hk : k = min N l.length) : (List.range N).map (fun i => if i < k then heldM l c i else 0) = (List.range N).map (heldM l c) := by
  refine List.map_congr_left fun i hi => ?_
  split
  · rfl
  · have h1 := List.mem_range.1 hi
    rw [heldM, List.getElem?_eq_none (by omega)]
theorem OwnL.oneSet {w : World} {B ga : Nat} {t : TypeId} {α : Type} {cells : α → List Value} {x : L α} (h : OwnL w B t cells x) (hf : ∀ b, x.v.ownBlock = some b → b ≠ ga) (i : Nat) (v : Value) : OwnL (w.setCell ⟨ga, i, none⟩ v) B t cells x := h.far _ (fun e => hf ga e rfl)
theorem state_fit {p : ProgD} {a b m} {pl : List Int} (hs : AccSm p) (hp : pl.length ≤ 1000) : EnvFit (stateE p a b m pl) := by
  have h1 := hs.headers
  have h2 := hs.metadata
  refine ⟨by simp [stateE]; omega, by simp [stateE]; omega, fun x hx => ?_, by simp [stateE]; omega, by simpa [stateE] using hp⟩
  simp only [stateE, List.mem_map] at hx
  obtain ⟨h, _, rfl⟩ := hx
  have h3 := hs.fields h
  simp
  omega
structure EnvHas (w : World) (B : Nat) (e : EnvD) : Prop where
  valid : OwnL w B 4 bcell e.valid
  fields : OwnL w B 53 lcell e.fields
  each : ∀ x ∈ e.fields.l, OwnL w B 83 ucell x
  metaV : OwnL w B 83 ucell e.metaV
  payload : OwnL w B 5 ycell e.payload
theorem EnvHas.ok {w : World} {B : Nat} {e : EnvD} (o : EnvHas w B e) : EnvOk w e :=
  ⟨o.valid.ok (fun _ => rfl), o.fields.ok (fun _ => rfl), fun x hx => (o.each x hx).ok (fun _ => rfl), o.metaV.ok (fun _ => rfl), o.payload.ok (fun _ => rfl)⟩
theorem EnvHas.below {w w' : World} {B : Nat} {e : EnvD} (o : EnvHas w B e) (hb : Below w.heap.size w w') : EnvHas w' B e :=
  ⟨o.valid.below hb, o.fields.below hb, fun x hx => (o.each x hx).below hb, o.metaV.below hb, o.payload.below hb⟩
theorem EnvHas.lower {w : World} {B B' : Nat} {e : EnvD} (o : EnvHas w B e) (h : B' ≤ B) : EnvHas w B' e :=
  ⟨o.valid.lower h, o.fields.lower h, fun x hx => (o.each x hx).lower h, o.metaV.lower h, o.payload.lower h⟩
theorem EnvHas.four {w : World} {B ga : Nat} {e : EnvD} (o : EnvHas w B e) (h : ga < B) (a b c d : Value) : EnvHas ((((w.setCell ⟨ga, 0, none⟩ a).setCell ⟨ga, 1, none⟩ b).setCell ⟨ga, 2, none⟩ c).setCell ⟨ga, 3, none⟩ d) B e := by
  have hh : ∀ {t : TypeId} {α : Type} {cells : α → List Value} {y : L α}, OwnL w B t cells y → OwnL ((((w.setCell ⟨ga, 0, none⟩ a).setCell ⟨ga, 1, none⟩ b).setCell ⟨ga, 2, none⟩ c).setCell ⟨ga, 3, none⟩ d) B t cells y := fun {t α cells y} ho => ho.four (fun q e1 e2 => by have := (ho.lt q e1).1; omega) a b c d
  exact ⟨hh o.valid, hh o.fields, fun x hx => hh (o.each x hx), hh o.metaV, hh o.payload⟩
structure EAt (w : World) (B0 ga : Nat) (e : EnvD) : Prop where
  has : EnvHas w B0 e
  blk : Blk w ga 56 (envCells e)
theorem EAt.ok {w : World} {B0 ga : Nat} {e : EnvD} (h : EAt w B0 ga e) : EnvOk w e := h.has.ok
theorem EAt.below {w w' : World} {B0 ga : Nat} {e : EnvD} (h : EAt w B0 ga e) (hb : Below w.heap.size w w') : EAt w' B0 ga e := ⟨h.has.below hb, h.blk.below hb h.blk.lt⟩
theorem EAt.lay {w : World} {B B0 ga : Nat} {e : EnvD} {cs : Array Value} (h : EnvMine w B e) (hB : B0 ≤ B) (hb : Blk w ga 56 cs) (hs : cs.size = 4) (hg : ga < B) :
    EAt ((((w.setCell ⟨ga, 0, none⟩ (.slice e.valid.A e.valid.l.length e.valid.c)).setCell ⟨ga, 1, none⟩ (.slice e.fields.A e.fields.l.length e.fields.c)).setCell ⟨ga, 2, none⟩ (.slice e.metaV.A e.metaV.l.length e.metaV.c)).setCell ⟨ga, 3, none⟩ (.slice e.payload.A e.payload.l.length e.payload.c)) B0 ga e := by
  refine ⟨?_, ?_⟩
  · have h2 := (h.four hg (.slice e.valid.A e.valid.l.length e.valid.c) (.slice e.fields.A e.fields.l.length e.fields.c) (.slice e.metaV.A e.metaV.l.length e.metaV.c) (.slice e.payload.A e.payload.l.length e.payload.c)).lower hB
    exact ⟨h2.valid, h2.fields, h2.each, h2.metaV, h2.payload⟩
  have h9 := (((hb.set_ 0 (.slice e.valid.A e.valid.l.length e.valid.c)).set_ 1 (.slice e.fields.A e.fields.l.length e.fields.c)).set_ 2 (.slice e.metaV.A e.metaV.l.length e.metaV.c)).set_ 3 (.slice e.payload.A e.payload.l.length e.payload.c)
  obtain ⟨l⟩ := cs
  match l, hs with
  | [a, b, c, d], _ => exact h9
theorem pstore_any (p : ProgD) (x : L SlotD) (c : ConD) (pl : L Int) (w : World) (o : ProgOk w p) (hs : AccSm p) (hx : LOk w 4 SlotD.cells x) (hl : x.l.length ≤ 1000) (hc : ConLOk w c) (hp : LOkN w 1 ycell pl) (hpl : pl.l.length ≤ 1000) :
    Calls Tryz.prog 27 #[.agg (progCells p), .slice x.A x.l.length x.c, .agg (rconCells c), .slice pl.A pl.l.length pl.c] w fun r w' =>
      ∃ (e' : EnvD) (b : L Bool), r = .returned (.tuple #[.agg (envCells e'), .slice b.A b.l.length b.c]) ∧ e'.bare = storeM p x.l c.bare pl.l ∧ b.l = bitsOutM p x.l c.bare ∧ EnvHas w' w.heap.size e' ∧ OwnL w' w.heap.size 4 bcell b ∧ Below w.heap.size w w' := by
  obtain ⟨W, hW⟩ : ∃ W, W = ((w.alloc (.cells (progCells p) 31)).alloc (.cells (rconCells c) 64)).alloc (.cells #[.slice none 0 0, .slice none 0 0, .slice none 0 0, .slice none 0 0] 56) := ⟨_, rfl⟩
  have hw : Below w.heap.size w W := by rw [hW]; exact below3 _ _ _ _
  have HW := hi_ hw
  have HSz : Hid (W.heap.size = w.heap.size + 1 + 1 + 1) := hi_ (by rw [hW]; simp)
  have HP : Hid (Blk W w.heap.size 31 (progCells p)) := hi_ (by rw [hW]; exact ((Blk.new _ _ _).alloc _).alloc _)
  have HK : Hid (Blk W (w.heap.size + 1) 64 (rconCells c)) := hi_ (by rw [hW]; exact (by simpa using Blk.new (w.alloc (.cells (progCells p) 31)) 64 (rconCells c) : Blk _ (w.heap.size + 1) _ _).alloc _)
  have HZ : Hid (Blk W (w.heap.size + 1 + 1) 56 #[.slice none 0 0, .slice none 0 0, .slice none 0 0, .slice none 0 0]) := hi_ (by rw [hW]; simpa using Blk.new ((w.alloc (.cells (progCells p) 31)).alloc (.cells (rconCells c) 64)) 56 #[.slice none 0 0, .slice none 0 0, .slice none 0 0, .slice none 0 0])
  have HO := hi_ (fun u (hb : Below W.heap.size W u) => o.below (below_step hw hb))
  have HNw := hi_ (fun u (hb : Below W.heap.size W u) => envNew_any p u (HO.out u hb) hs)
  have HCc := hi_ (fun u (hb : Below W.heap.size W u) => pcells_any p u (HO.out u hb) hs)
  have HGt := hi_ (fun u (hb : Below W.heap.size W u) s => pget_any c s (w.heap.size + 1) u (HK.out.below hb HK.out.lt) (hc.below (below_step hw hb)))
  have HXo := hi_ (fun u (hb : Below W.heap.size W u) => hx.below (below_step hw hb) (Nat.le_refl _))
  have HPl := hi_ (fun u (hb : Below W.heap.size W u) => hp.below (below_step hw hb))
  have HS := hi_ hs
  have hHd := hs.headers
  have hMd := hs.metadata
  have hp0 := fun w' (h : Below W.heap.size W w') => blk_cells' (n := 9) HP.out w' h
  have hcl : cellsN p ≤ 10200 := by have := fN_le hs; have := hs.headers; have := hs.metadata; unfold cellsN; omega
  clear o hs hx hc hp hw
  obtain ⟨l, A, cx⟩ := x
  obtain ⟨pl, pA, pc⟩ := pl
  simp only at hl hpl HXo HPl ⊢
  have HCN := hi_ (show cellsN p = fN p + (p.headers.l.length + p.metadata.l.length) from rfl)
  generalize hN : cellsN p = N at *
  have HNn := hi_ hN
  clear hN
  have HB0 := hi_ (Below.refl W.heap.size W)
  go_enter Tryz.func27, Tryz.ntmps27
  go_upto_region 1 with fail
  rw [← hW]
  clear hW
  have hq := hp0 W HB0.out
  go_wp2_with fail
  refine (HNw.out W HB0.out).mono ?_
  rintro r w1 ⟨e0, rfl, hbe, hm, hpn, hb1⟩
  have HM1 := hi_ hm
  have HB1 := hi_ hb1
  have HBe := hi_ hbe
  obtain ⟨ev, ef, em, ep⟩ := e0
  simp only at hpn
  subst hpn
  clear hbe hm hb1 hq HNw
  refine Exists.elim (⟨_, rfl⟩ : ∃ V, V = w1.alloc (.cells #[.slice ev.A ev.l.length ev.c, .slice ef.A ef.l.length ef.c, .slice em.A em.l.length em.c, .slice none 0 0] 56)) fun V hV => ?_
  have HGV : Hid (Blk V w1.heap.size 56 (envCells ⟨ev, ef, em, ⟨[], none, 0⟩⟩)) := hi_ (by rw [hV]; exact Blk.new _ _ _)
  have HBV : Hid (Below W.heap.size W V) := hi_ (by rw [hV]; exact below_step HB1.out (below1 _ _))
  have HB1V : Hid (Below w1.heap.size w1 V) := hi_ (by rw [hV]; exact below1 _ _)
  go_upto_region 2 with fail
  rw [← hV]
  clear hV
  have g3 : V.cell? ⟨w1.heap.size, 3, none⟩ = some (.slice none 0 0) := HGV.out.cell 3
  have gf := HGV.out.frozen 3
  obtain ⟨i0, hi, hz0, hz1, hz2⟩ := info_parts info_u8
  have hgl := HGV.out.lt
  go_wp2_with (first
    | (at_builtin; refine wpList_append_L rfl _ _ 54 rfl V.heap.size 5 i0 _ 1 1 Tryz.underlying54 hi hz0 hz1 hz2 rfl (by decide) _ _ _ rfl (World.ownsRow_nil _ _ _ _) ⟨pl, pA, pc⟩ rfl (HPl.out V HBV.out).1 (HPl.out V HBV.out).2 (fun _ => rfl) one_ycell ?c1 ?c2 ?c3 ?_))
  case c1 => unfold maxLen; omega
  case c2 => omega
  case c3 => exact Nat.le_refl _
  intro v' w3 hown3 hgrow
  have HB3 : Hid (Below V.heap.size V w3) := hi_ (grown_below (World.ownsRow_nil V V.heap.size 5 1) hgrow (Nat.le_refl _))
  try simp only [Nat.zero_add, List.nil_append] at hown3
  obtain ⟨A3, c3, rfl, _⟩ := own_list (cells := ycell) (l := pl) (fun _ => rfl) hown3
  have HPo : Hid (OwnL w3 V.heap.size 5 ycell ⟨pl, A3, c3⟩) := hi_ hown3
  have HG3 := hi_ (HGV.out.below HB3.out HGV.out.lt)
  have g3' : w3.cell? ⟨w1.heap.size, 3, none⟩ = some (.slice none 0 0) := HG3.out.cell 3
  have gf' := HG3.out.frozen 3
  clear hown3 hgrow g3 gf
  go_upto_region 3 with fail
  refine Exists.elim (⟨_, rfl⟩ : ∃ U, U = w3.setCell ⟨w1.heap.size, 3, none⟩ (.slice A3 pl.length c3)) fun U hU => ?_
  have HGU : Hid (Blk U w1.heap.size 56 (envCells ⟨ev, ef, em, ⟨pl, A3, c3⟩⟩)) := hi_ (by
    rw [hU]
    have h9 := HG3.out.set_ 3 (.slice A3 pl.length c3)
    simpa [envCells] using h9)
  have HBU : Hid (Below W.heap.size W U) := hi_ (by rw [hU]; exact (below_step HBV.out HB3.out).setCell (by exact HB1.out.size) _)
  have HEU : Hid (EnvHas U W.heap.size ⟨ev, ef, em, ⟨pl, A3, c3⟩⟩) := hi_ (by
    rw [hU]
    have hh : ∀ {t : TypeId} {α : Type} {cells : α → List Value} {y : L α}, OwnL w1 W.heap.size t cells y → OwnL (w3.setCell ⟨w1.heap.size, 3, none⟩ (.slice A3 pl.length c3)) W.heap.size t cells y := fun {t α cells y} ho =>
      ((ho.below HB1V.out).below HB3.out).oneSet (fun b e1 e2 => by have := (ho.lt b e1).2; omega) 3 _
    exact ⟨hh HM1.out.valid, hh HM1.out.fields, fun x hx => hh (HM1.out.each x hx), hh HM1.out.metaV, (HPo.out.oneSet (fun b e1 e2 => by have := (HPo.out.lt b e1).1; omega) 3 _).lower HBV.out.size⟩)
  have HE1 : Hid ((⟨ev, ef, em, ⟨pl, A3, c3⟩⟩ : EnvD).bare = stateE p (fun _ => false) (fun _ _ => 0) (fun _ => 0) pl) := hi_ (by
    have h9 := HBe.out
    unfold newE stateE EnvD.bare at h9
    unfold stateE EnvD.bare
    simp only [EnvP.mk.injEq] at h9 ⊢
    exact ⟨h9.1, h9.2.1, h9.2.2.1, trivial⟩)
  rw [← hU]
  have HGW : Hid (W.heap.size ≤ w1.heap.size) := hi_ HB1.out.size
  generalize w1.heap.size = ga at *
  obtain ⟨e1, he1⟩ : ∃ e1 : EnvD, e1 = ⟨ev, ef, em, ⟨pl, A3, c3⟩⟩ := ⟨_, rfl⟩
  rw [← he1] at HGU HEU HE1
  clear hU HGV HBV HB1V HB3 HPo HG3 g3' gf' hgl HM1 HB1 HBe hi hz0 hz1 hz2 he1
  have hq := hp0 U HBU.out
  go_wp2_with fail
  refine (HCc.out U HBU.out).mono ?_
  rintro r w4 ⟨rfl, hb4⟩
  have HG4 := hi_ (HGU.out.below hb4 HGU.out.lt)
  have HE4 := hi_ (HEU.out.below hb4)
  have HB4 := hi_ (below_step HBU.out hb4)
  clear hq hb4 HGU HEU HBU
  obtain ⟨i1, hi, hz0, hz1, hz2⟩ := info_parts info_u32
  obtain ⟨w5, hrun, hrow, hgr⟩ := run_make_full (P := Tryz.prog) (w := w4) w4.heap.size 53 83 i1 _ 1 Tryz.underlying53 hi hz0 hz1 .i64 .i64 N (by rw [hz2]; omega) (by unfold maxLen; omega) (Nat.le_refl _)
  have hb5 := below_none hgr
  have HHd : Hid (OwnL w5 w4.heap.size 83 ucell ⟨(List.range N).map (fun i => if i < 0 then heldM l c.bare i else 0), some ⟨w4.heap.size, 0, none⟩, N⟩) := hi_ (by
    rw [made_zero3] at hrow
    have h9 : (List.range N).map (fun i => if i < 0 then heldM l c.bare i else 0) = List.replicate N (0 : Int) := by
      refine List.ext_getElem? fun i => ?_
      rw [List.getElem?_replicate, List.getElem?_map]
      by_cases hi : i < N <;> simp [hi]
    rw [h9]
    unfold OwnL
    simp only [L.v, List.length_replicate]
    exact hrow)
  have HG5 := hi_ (HG4.out.below hb5 HG4.out.lt)
  have HE5 := hi_ (HE4.out.below hb5)
  have HB5 := hi_ (below_step HB4.out hb5)
  have hgh : ga < w4.heap.size := HG4.out.lt
  have hWh : W.heap.size ≤ w4.heap.size := HB4.out.size
  go_upto_region 5 with fail
  have HB45 := hi_ hb5
  clear hrun hrow hgr hb5 HG5 HE5 HB5 hi hz0 hz1 hz2
  have hmi : min (N : Int) (l.length : Int) = ((min N l.length : Nat) : Int) := by omega
  go_wp2
  clear hmi
  generalize hmN : min N l.length = mN
  have HmN := hi_ hmN.symm
  have hm1 : mN ≤ N := by omega
  have hm2 : mN ≤ l.length := by omega
  clear hmN
  go_loopw [13, 38] (fun _ iv wr => ∃ k : Nat, k ≤ mN ∧ iv = .int .i64 k ∧ Hid (OwnL wr w4.heap.size 83 ucell ⟨(List.range N).map (fun i => if i < k then heldM l c.bare i else 0), some ⟨w4.heap.size, 0, none⟩, N⟩) ∧ Below w4.heap.size w4 wr) (fun _ i _ => mN - (intOf i).toNat)
  case atStart => exact ⟨0, Nat.zero_le _, rfl, HHd, HB45.out⟩
  case round =>
  obtain ⟨k, hk, rfl, HH, HB⟩ := hrel
  by_cases hlt : k < mN
  case pos =>
    have hkl : k < l.length := by omega
    obtain ⟨g0, of0, hA, hall⟩ := SlotD.atA (HXo.out W HB0.out) hkl
    simp only at hA
    have HBr := hi_ (below_step HB4.out HB)
    obtain ⟨d0, d1, d2, d3⟩ := hall wr HBr.out
    have HHe : Hid (heldM l c.bare k = getC c.bare l[k]) := hi_ (by rw [heldM, List.getElem?_eq_getElem hkl])
    have hkN : (k : Int) < (N : Int) := by omega
    subst hA
    clear hall
    generalize l[k] = s at *
    obtain ⟨z, i, f, d⟩ := s
    simp only at d0 d1 d2 d3
    have HBq := hi_ HB
    clear HB
    go_wp2_with fail
    refine (HGt.out wr HBr.out ⟨z, i, f, d⟩).mono ?_
    rintro r w6 ⟨rfl, hb6⟩
    rw [← HHe.out]
    have HH6 := hi_ (HH.out.below hb6)
    have HB6 := hi_ (below_step HBq.out hb6)
    obtain ⟨gq, oq, eq1, dq⟩ := ucell_at (HH6.out.ok (fun _ => rfl)).1 (i := k) (by simp; omega)
    simp only at eq1
    injection eq1 with eq1
    injection eq1 with eq1 eq2
    subst eq1 eq2
    rw [Nat.zero_add] at dq
    have fq := HH6.out.frozen k
    have HPt := hi_ (OwnL.put (fun n => .int .u32 n) (fun _ => rfl) HH6.out k (heldM l c.bare k))
    have HLs : Hid (((List.range N).map (fun i => if i < k then heldM l c.bare i else 0)).set k (heldM l c.bare k) = (List.range N).map (fun i => if i < k + 1 then heldM l c.bare i else 0)) := hi_ (by
      rw [range_set]
      refine List.map_congr_left fun i _ => ?_
      by_cases h1 : i = k
      · subst h1; rw [if_pos rfl, if_pos (by omega)]
      · rw [if_neg h1]
        by_cases h2 : i < k
        · rw [if_pos h2, if_pos (by omega)]
        · rw [if_neg h2, if_neg (by omega)])
    rw [HLs.out] at HPt
    clear hb6 d0 d1 d2 d3 HH6 HLs HHe
    generalize heldM l c.bare k = hv at *
    go_wp2
    go_roundw
    case rel => exact ⟨k + 1, by omega, by go_num, HPt, HB6.out.setCell (by exact Nat.le_refl _) _⟩
    case measure => simp [intOf]; omega
  have hkm : k = mN := by omega
  have HHL : Hid (OwnL wr w4.heap.size 83 ucell ⟨(List.range N).map (heldM l c.bare), some ⟨w4.heap.size, 0, none⟩, N⟩) := hi_ (by
    have h9 := HH.out
    rw [held_all l c.bare N k (hkm.trans HmN.out)] at h9
    exact h9)
  have HEr : Hid (EAt wr W.heap.size ga e1) := hi_ ⟨HE4.out.below HB, HG4.out.below HB HG4.out.lt⟩
  have HBr := hi_ (below_step HB4.out HB)
  have hq := hp0 wr HBr.out
  clear HH HB hkm HB45 HHd
  generalize w4.heap.size = gh at *
  generalize hhl : (List.range N).map (heldM l c.bare) = hL at *
  have HLen : Hid (hL.length = N) := hi_ (by rw [← hhl]; simp)
  have HLat : Hid (∀ i (h : i < hL.length), hL[i] = heldM l c.bare i) := hi_ (fun i h => by subst hhl; simp)
  clear hhl
  go_wp2
  clear hq
  go_loopw [14, 53] (fun _ iv wr => ∃ (k : Nat) (ee : EnvD), k ≤ p.headers.l.length ∧ iv = .int .i64 k ∧ Hid (ee.bare = stateE p (fun i => decide (i < k) && decide (heldM l c.bare (fN p + i) ≠ 0)) (fun _ _ => 0) (fun _ => 0) pl) ∧ Hid (EAt wr W.heap.size ga ee) ∧ Hid (OwnL wr gh 83 ucell ⟨hL, some ⟨gh, 0, none⟩, N⟩) ∧ Below W.heap.size W wr) (fun _ i _ => p.headers.l.length - (intOf i).toNat)
  case atStart => exact ⟨0, e1, Nat.zero_le _, rfl, hi_ (by rw [HE1.out]; simp), HEr, HHL, HBr.out⟩
  clear HE1 HEr HHL HBr HE4 HG4 HB4
  case round =>
  obtain ⟨k, ee, hk, rfl, HBe, HEq, HHq, HB⟩ := hrel
  by_cases hlt : k < p.headers.l.length
  case pos =>
    have hix : fN p + k < N := by have := HCN.out; omega
    have HVc := hi_ (fun u (hb : Below W.heap.size W u) => validCell_any p k hlt u (HO.out u hb) HS.out)
    obtain ⟨hv, hhv⟩ : ∃ hv, hv = heldM l c.bare (fN p + k) := ⟨_, rfl⟩
    have hcell : Hid (∀ u, Below wr.heap.size wr u → u.cell? ⟨gh, fN p + k, none⟩ = some (.int .u32 hv)) := hi_ (by
      obtain ⟨gq, oq, eq1, dq⟩ := ucell_atA (HHq.out.ok (fun _ => rfl)).1 (i := fN p + k) (by rw [HLen.out]; exact hix)
      simp only at eq1 dq
      injection eq1 with eq1
      injection eq1 with eq1 eq2
      subst eq1 eq2
      intro u hu
      have h9 := dq u hu
      rw [Nat.zero_add] at h9
      rw [h9, HLat.out, hhv])
    have HFit : Hid (EnvFit ee.bare) := hi_ (by rw [HBe.out]; exact state_fit HS.out hpl)
    have HAd := hi_ (fun u (hu : Below wr.heap.size wr u) => addHeader_any p ee k u hlt (HEq.out.ok.below hu) HFit.out (by rw [HBe.out]; simpa [stateE] using hlt) (by rw [HBe.out]; simpa [stateE] using hlt))
    have HAb : Hid (hv ≠ 0 → addE p ee.bare k = stateE p (fun i => decide (i < k + 1) && decide (heldM l c.bare (fN p + i) ≠ 0)) (fun _ _ => 0) (fun _ => 0) pl) := hi_ (fun hne => by
      rw [HBe.out, add_state hlt (fun _ _ _ => rfl)]
      refine stateE_congr (fun h hh => ?_) (fun _ _ _ _ => rfl) (fun _ _ => rfl)
      by_cases h1 : h = k
      · subst h1; rw [if_pos rfl, ← hhv]; simp [hne]
      · rw [if_neg h1]
        have h2 : decide (h < k) = decide (h < k + 1) := by simp; omega
        rw [h2])
    have HNb : Hid (hv = 0 → ee.bare = stateE p (fun i => decide (i < k + 1) && decide (heldM l c.bare (fN p + i) ≠ 0)) (fun _ _ => 0) (fun _ => 0) pl) := hi_ (fun hz => by
      rw [HBe.out]
      refine stateE_congr (fun h hh => ?_) (fun _ _ _ _ => rfl) (fun _ _ => rfl)
      by_cases h1 : h = k
      · subst h1; rw [← hhv]; simp [hz]
      · have h2 : decide (h < k) = decide (h < k + 1) := by simp; omega
        rw [h2])
    clear hhv
    have HBq := hi_ HB
    have hq := hp0 wr HB
    have hixi : ((fN p + k : Nat) : Int) < (N : Int) := by omega
    have hixj : (fN p : Int) + (k : Int) < (N : Int) := by omega
    clear HB
    go_wp2_with fail
    refine (HVc.out wr HBq.out).mono ?_
    rintro r w6 ⟨rfl, hb6⟩
    have c6 := hcell.out w6 hb6
    have HB6 := hi_ (below_step HBq.out hb6)
    have HE6 := hi_ (HEq.out.below hb6)
    have HH6 := hi_ (HHq.out.below hb6)
    have HAd6 := hi_ (HAd.out w6 hb6)
    clear hq hb6 hcell HAd
    generalize fN p + k = ix at *
    by_cases hz : hv = 0
    · have hzb : (hv != 0) = false := by rw [hz]; rfl
      have HBn := hi_ (HNb.out hz)
      clear hz
      go_wp2
      go_roundw
      case rel => exact ⟨k + 1, ee, by omega, by go_num, HBn, HE6, HH6, HB6.out⟩
      case measure => simp [intOf]; omega
    have hzb : (hv != 0) = true := bne_iff_ne.2 hz
    have HBn := hi_ (HAb.out hz)
    have hq := hp0 w6 HB6.out
    have k0 : w6.cell? ⟨ga, 0, none⟩ = some (.slice ee.valid.A ee.valid.l.length ee.valid.c) := HE6.out.blk.cell 0
    have k1 : w6.cell? ⟨ga, 1, none⟩ = some (.slice ee.fields.A ee.fields.l.length ee.fields.c) := HE6.out.blk.cell 1
    have k2 : w6.cell? ⟨ga, 2, none⟩ = some (.slice ee.metaV.A ee.metaV.l.length ee.metaV.c) := HE6.out.blk.cell 2
    have k3 : w6.cell? ⟨ga, 3, none⟩ = some (.slice ee.payload.A ee.payload.l.length ee.payload.c) := HE6.out.blk.cell 3
    clear hz
    go_wp2_with fail
    refine HAd6.out.mono ?_
    rintro r w7 ⟨ee2, rfl, hbe2, hm2, hb7⟩
    have HE7 := hi_ (HE6.out.below hb7)
    have hgl6 : ga < w6.heap.size := HE6.out.blk.lt
    have HB7 := hi_ (below_step HB6.out hb7)
    have HH7 := hi_ (HH6.out.below hb7)
    have HM2 := hi_ hm2
    have HBn2 := hi_ (hbe2.trans HBn.out)
    clear hq k0 k1 k2 k3 c6 hbe2 hm2 hb7 HBn HAd6
    have k0 : w7.cell? ⟨ga, 0, none⟩ = some (.slice ee.valid.A ee.valid.l.length ee.valid.c) := HE7.out.blk.cell 0
    have k1 : w7.cell? ⟨ga, 1, none⟩ = some (.slice ee.fields.A ee.fields.l.length ee.fields.c) := HE7.out.blk.cell 1
    have k2 : w7.cell? ⟨ga, 2, none⟩ = some (.slice ee.metaV.A ee.metaV.l.length ee.metaV.c) := HE7.out.blk.cell 2
    have k3 : w7.cell? ⟨ga, 3, none⟩ = some (.slice ee.payload.A ee.payload.l.length ee.payload.c) := HE7.out.blk.cell 3
    have kf : ∀ j, w7.frozen? ⟨ga, j, none⟩ = false := fun j => HE7.out.blk.frozen j
    have hgW := HGW.out
    have HE8 := hi_ (EAt.lay (B0 := W.heap.size) HM2.out HB6.out.size HE7.out.blk rfl hgl6)
    have HH8 := hi_ (HH7.out.four (ga := ga) (fun b e1 e2 => by have := (HH7.out.lt b e1).1; omega) (.slice ee2.valid.A ee2.valid.l.length ee2.valid.c) (.slice ee2.fields.A ee2.fields.l.length ee2.fields.c) (.slice ee2.metaV.A ee2.metaV.l.length ee2.metaV.c) (.slice ee2.payload.A ee2.payload.l.length ee2.payload.c))
    have HB8 := hi_ ((((HB7.out.setCell (p := ⟨ga, 0, none⟩) (by exact hgW) (.slice ee2.valid.A ee2.valid.l.length ee2.valid.c)).setCell (p := ⟨ga, 1, none⟩) (by exact hgW) (.slice ee2.fields.A ee2.fields.l.length ee2.fields.c)).setCell (p := ⟨ga, 2, none⟩) (by exact hgW) (.slice ee2.metaV.A ee2.metaV.l.length ee2.metaV.c)).setCell (p := ⟨ga, 3, none⟩) (by exact hgW) (.slice ee2.payload.A ee2.payload.l.length ee2.payload.c))
    clear hgW
    go_wp2
    go_roundw
    case rel => exact ⟨k + 1, ee2, by omega, by go_num, HBn2, HE8, HH8, HB8.out⟩
    case measure => simp [intOf]; omega
  have hkl : k = p.headers.l.length := by omega
  have HBv : Hid (ee.bare = stateE p (fun i => decide (heldM l c.bare (fN p + i) ≠ 0)) (fun i j => if i < 0 then (if heldM l c.bare (fN p + i) ≠ 0 then cutV (widthAt p i j) (heldM l c.bare (preF p i + j)) else 0) else 0) (fun _ => 0) pl) := hi_ (by
    rw [HBe.out]
    refine stateE_congr (fun h hh => ?_) (fun _ _ _ _ => by simp) (fun _ _ => rfl)
    rw [hkl]; simp [hh])
  have HBs := hi_ HB
  have HEs := HEq
  have HHs := HHq
  obtain ⟨q, hqq⟩ : ∃ q, q = p.headers.A := ⟨_, rfl⟩
  have s1 : wr.cell? ⟨w.heap.size, 1, none⟩ = some (.slice q p.headers.l.length p.headers.c) := by rw [hqq]; exact hp0 wr HB 1 (by decide)
  have HQ := hi_ hqq
  have HP00 := hi_ hp0
  clear HBe HB hkl hqq hp0 HEq HHq
  go_wp2
  clear s1
  have hp0 := HP00.out
  go_loopw [15, 16, 17, 18, 71] (fun _ _ _ _ iv wr => ∃ (k : Nat) (ee : EnvD), k ≤ p.headers.l.length ∧ iv = .int .i64 k ∧ Hid (ee.bare = stateE p (fun i => decide (heldM l c.bare (fN p + i) ≠ 0)) (fun i j => if i < k then (if heldM l c.bare (fN p + i) ≠ 0 then cutV (widthAt p i j) (heldM l c.bare (preF p i + j)) else 0) else 0) (fun j => if false then cutV (widthAt p (-1) j) (heldM l c.bare (fN p + p.headers.l.length + j)) else 0) pl) ∧ Hid (EAt wr W.heap.size ga ee) ∧ Hid (OwnL wr gh 83 ucell ⟨hL, some ⟨gh, 0, none⟩, N⟩) ∧ Below W.heap.size W wr) (fun _ _ _ _ i _ => p.headers.l.length - (intOf i).toNat)
  case atStart => exact ⟨0, ee, Nat.zero_le _, rfl, hi_ (by rw [HBv.out]; simp), HEs, HHs, HBs.out⟩
  clear HBv HEs HHs HBs
  case round =>
  obtain ⟨k, ee, hk, rfl, HBe, HEq, HHq, HB⟩ := hrel
  by_cases hlt : k < p.headers.l.length
  case pos =>
    obtain ⟨g0, of0, hA, hall⟩ := HeaderD.atA (HO.out W HB0.out).headers hlt
    obtain ⟨d0, d1⟩ := hall wr HB
    have hn1 := nF_at hlt
    rw [← hn1] at d1
    have hqs : q = some ⟨g0, of0, none⟩ := by rw [HQ.out]; exact hA
    have hn2 := HS.out.fields k
    obtain ⟨n, hnn⟩ : ∃ n, n = nF p k := ⟨_, rfl⟩
    rw [← hnn] at d1 hn2
    have HNn2 := hi_ hnn
    generalize p.headers.l[k].name = nm at *
    generalize p.headers.l[k].fields.A = fA at *
    generalize p.headers.l[k].fields.c = fc at *
    clear hall hn1 hA hnn
    have HHp := hi_ hqs
    have hca := @World.cell?_alloc_some
    refine Exists.elim (⟨_, rfl⟩ : ∃ V, V = wr.alloc (.cells #[.string nm, .slice fA n fc] 96)) fun V hV => ?_
    have HBV := hi_ (show Below W.heap.size W V by rw [hV]; exact below_step HB (below1 _ _))
    have HEV := hi_ (show EAt V W.heap.size ga ee by rw [hV]; exact HEq.out.below (below1 _ _))
    have HHV := hi_ (show OwnL V gh 83 ucell ⟨hL, some ⟨gh, 0, none⟩, N⟩ by rw [hV]; exact HHq.out.below (below1 _ _))
    have HKV := hi_ (show Blk V wr.heap.size 96 #[.string nm, .slice fA n fc] by rw [hV]; exact Blk.new _ _ _)
    clear HB HEq HHq hca
    subst hqs
    go_upto_region 19 with fail
    rw [← hV]
    clear hV d0 d1
    have e1' : V.cell? ⟨wr.heap.size, 1, none⟩ = some (.slice fA n fc) := HKV.out.cell 1
    go_wp2
    clear e1'
    generalize wr.heap.size = gcp at *
    go_loopw [17, 18, 79] (fun _ _ fv wr => ∃ (f : Nat) (ee : EnvD), f ≤ n ∧ fv = .int .i64 f ∧ Hid (ee.bare = stateE p (fun i => decide (heldM l c.bare (fN p + i) ≠ 0)) (fun i j => if i < k ∨ (i = k ∧ j < f) then (if heldM l c.bare (fN p + i) ≠ 0 then cutV (widthAt p i j) (heldM l c.bare (preF p i + j)) else 0) else 0) (fun j => if false then cutV (widthAt p (-1) j) (heldM l c.bare (fN p + p.headers.l.length + j)) else 0) pl) ∧ Hid (EAt wr W.heap.size ga ee) ∧ Hid (OwnL wr gh 83 ucell ⟨hL, some ⟨gh, 0, none⟩, N⟩) ∧ Below W.heap.size W wr) (fun _ _ i _ => n - (intOf i).toNat)
    case atStart => exact ⟨0, ee, Nat.zero_le _, rfl, hi_ (by rw [HBe.out]; refine stateE_congr (fun _ _ => rfl) (fun i _ j _ => ?_) (fun _ _ => rfl); simp), HEV, HHV, HBV.out⟩
    clear HBe HEV HHV HBV HKV
    case round =>
    obtain ⟨f, ee, hf, rfl, HBe, HEw, HHw, HB⟩ := hrel
    by_cases hlf : f < n
    case neg =>
      have HBn : Hid (ee.bare = stateE p (fun i => decide (heldM l c.bare (fN p + i) ≠ 0)) (fun i j => if i < k + 1 then (if heldM l c.bare (fN p + i) ≠ 0 then cutV (widthAt p i j) (heldM l c.bare (preF p i + j)) else 0) else 0) (fun j => if false then cutV (widthAt p (-1) j) (heldM l c.bare (fN p + p.headers.l.length + j)) else 0) pl) := hi_ (by
        rw [HBe.out]
        refine stateE_congr (fun _ _ => rfl) (fun i _ j hj => ?_) (fun _ _ => rfl)
        have h9 := HNn2.out
        by_cases h1 : i < k ∨ (i = k ∧ j < f)
        · rw [if_pos h1, if_pos (show i < k + 1 by omega)]
        · rw [if_neg h1, if_neg (show ¬ i < k + 1 by
            intro h2
            have h3 : i = k := by omega
            subst h3
            omega)])
      have HBz := hi_ HB
      clear HB HBe
      go_wp2
      go_roundw
      case rel => exact ⟨k + 1, ee, by omega, by go_num, HBn, HEw, HHw, HBz.out⟩
      case measure => simp [intOf]; omega
    obtain ⟨ix, hix⟩ : ∃ ix, ix = preF p k + f := ⟨_, rfl⟩
    have hfn : f < nF p k := by rw [← HNn2.out]; exact hlf
    have hixN : ix < N := by have h9 := preF_step (p := p) hlt; have h8 := HCN.out; rw [hix]; unfold fN at h8; omega
    have hixi : (ix : Int) < (N : Int) := by omega
    have HFc0 := hi_ (fun u (hb : Below W.heap.size W u) => fieldCell_any p k f hlt hfn u (HO.out u hb) HS.out)
    rw [← hix] at HFc0
    obtain ⟨hv, hhv⟩ : ∃ hv, hv = heldM l c.bare ix := ⟨_, rfl⟩
    have HSe : Hid (setE p ee.bare k f hv = stateE p (fun i => decide (heldM l c.bare (fN p + i) ≠ 0)) (fun i j => if i < k ∨ (i = k ∧ j < f + 1) then (if heldM l c.bare (fN p + i) ≠ 0 then cutV (widthAt p i j) (heldM l c.bare (preF p i + j)) else 0) else 0) (fun j => if false then cutV (widthAt p (-1) j) (heldM l c.bare (fN p + p.headers.l.length + j)) else 0) pl) := hi_ (by
      rw [HBe.out, set_fld hlt]
      refine stateE_congr (fun _ _ => rfl) (fun i _ j _ => ?_) (fun _ _ => rfl)
      by_cases h1 : i = k ∧ j = f
      · obtain ⟨rfl, rfl⟩ := h1
        rw [if_pos (show i < i ∨ (i = i ∧ j < j + 1) by omega), if_neg (show ¬ (i < i ∨ (i = i ∧ j < j)) by omega)]
        rw [hhv, hix]
        by_cases h2 : heldM l c.bare (fN p + i) ≠ 0
        · rw [if_pos h2]
          unfold cutV
          by_cases h3 : widthAt p i j = 0
          · rw [if_pos h3, if_neg (by simp [h3])]
          · rw [if_neg h3, if_pos (by simp [h2, h3])]
        · rw [if_neg h2, if_neg (by simp [h2])]
      · rw [if_neg (by intro h2; exact h1 ⟨h2.1, h2.2.1⟩)]
        by_cases h3 : i < k ∨ (i = k ∧ j < f)
        · rw [if_pos h3, if_pos (show i < k ∨ (i = k ∧ j < f + 1) by omega)]
        · rw [if_neg h3, if_neg (show ¬ (i < k ∨ (i = k ∧ j < f + 1)) by omega)])
    have hca := @World.cell?_alloc_some
    refine Exists.elim (⟨_, rfl⟩ : ∃ wq, wq = wr.alloc (.cells #[.int .i64 (k : Nat), .int .i64 (f : Nat)] 98)) fun wq hwq => ?_
    obtain ⟨gr, hgr⟩ : ∃ gr, gr = wr.heap.size := ⟨_, rfl⟩
    have HBq := hi_ (show Below W.heap.size W wq by rw [hwq]; exact below_step HB (below1 _ _))
    have HEq := hi_ (show EAt wq W.heap.size ga ee by rw [hwq]; exact HEw.out.below (below1 _ _))
    have HHq := hi_ (show OwnL wq gh 83 ucell ⟨hL, some ⟨gh, 0, none⟩, N⟩ by rw [hwq]; exact HHw.out.below (below1 _ _))
    have HCell : Hid (∀ u, Below wq.heap.size wq u → u.cell? ⟨gh, ix, none⟩ = some (.int .u32 hv)) := hi_ (by
      obtain ⟨gq, oq, eq1, dq⟩ := ucell_atA (HHq.out.ok (fun _ => rfl)).1 (i := ix) (by rw [HLen.out]; exact hixN)
      simp only at eq1 dq
      injection eq1 with eq1
      injection eq1 with eq1 eq2
      subst eq1 eq2
      intro u hu
      have h9 := dq u hu
      rw [Nat.zero_add] at h9
      rw [h9, HLat.out, hhv])
    have HRf : Hid (Blk wq gr 98 #[.int .i64 ((k : Nat)), .int .i64 (f : Nat)]) := hi_ (by rw [hwq, hgr]; exact Blk.new _ _ _)
    have HSB : Hid (∀ u, Below wq.heap.size wq u → (fun w' => (∀ i, i < 9 → w'.cell? ⟨w.heap.size, i, none⟩ = (progCells p)[i]?) ∧ w'.cell? ⟨gr, 0, none⟩ = some (.int .i64 ((k : Nat))) ∧ w'.cell? ⟨gr, 1, none⟩ = some (.int .i64 (f : Nat)) ∧ w'.cell? ⟨gh, ix, none⟩ = some (.int .u32 hv)) u) := hi_ (fun u hu => ⟨hp0 u (below_step HBq.out hu), (HRf.out.below hu HRf.out.lt).cell 0, (HRf.out.below hu HRf.out.lt).cell 1, HCell.out u hu⟩)
    have hgane : gr ≠ ga := by rw [hgr]; have := HEw.out.blk.lt; omega
    have hghga : gh ≠ ga := by omega
    have HFit : Hid (EnvFit ee.bare) := hi_ (by rw [HBe.out]; exact state_fit HS.out hpl)
    have HSt := hi_ (fun u (hu : Below wq.heap.size wq u) => envSet_any p ee ((k : Nat)) f hv u (HO.out u (below_step HBq.out hu)) (HEq.out.ok.below hu) HFit.out)
    have HFin : Hid (∀ (w6 w7 : World) (ee2 : EnvD), Below wq.heap.size wq w6 → Below wq.heap.size wq w7 → EnvMine w7 w6.heap.size ee2 →
      ((fun w' => (∀ i, i < 9 → w'.cell? ⟨w.heap.size, i, none⟩ = (progCells p)[i]?) ∧ w'.cell? ⟨gr, 0, none⟩ = some (.int .i64 ((k : Nat))) ∧ w'.cell? ⟨gr, 1, none⟩ = some (.int .i64 (f : Nat)) ∧ w'.cell? ⟨gh, ix, none⟩ = some (.int .u32 hv)) ((((w7.setCell ⟨ga, 0, none⟩ (.slice ee2.valid.A ee2.valid.l.length ee2.valid.c)).setCell ⟨ga, 1, none⟩ (.slice ee2.fields.A ee2.fields.l.length ee2.fields.c)).setCell ⟨ga, 2, none⟩ (.slice ee2.metaV.A ee2.metaV.l.length ee2.metaV.c)).setCell ⟨ga, 3, none⟩ (.slice ee2.payload.A ee2.payload.l.length ee2.payload.c))) ∧
      Hid (EAt ((((w7.setCell ⟨ga, 0, none⟩ (.slice ee2.valid.A ee2.valid.l.length ee2.valid.c)).setCell ⟨ga, 1, none⟩ (.slice ee2.fields.A ee2.fields.l.length ee2.fields.c)).setCell ⟨ga, 2, none⟩ (.slice ee2.metaV.A ee2.metaV.l.length ee2.metaV.c)).setCell ⟨ga, 3, none⟩ (.slice ee2.payload.A ee2.payload.l.length ee2.payload.c)) W.heap.size ga ee2) ∧
      Hid (OwnL ((((w7.setCell ⟨ga, 0, none⟩ (.slice ee2.valid.A ee2.valid.l.length ee2.valid.c)).setCell ⟨ga, 1, none⟩ (.slice ee2.fields.A ee2.fields.l.length ee2.fields.c)).setCell ⟨ga, 2, none⟩ (.slice ee2.metaV.A ee2.metaV.l.length ee2.metaV.c)).setCell ⟨ga, 3, none⟩ (.slice ee2.payload.A ee2.payload.l.length ee2.payload.c)) gh 83 ucell ⟨hL, some ⟨gh, 0, none⟩, N⟩) ∧
      Hid (Below W.heap.size W ((((w7.setCell ⟨ga, 0, none⟩ (.slice ee2.valid.A ee2.valid.l.length ee2.valid.c)).setCell ⟨ga, 1, none⟩ (.slice ee2.fields.A ee2.fields.l.length ee2.fields.c)).setCell ⟨ga, 2, none⟩ (.slice ee2.metaV.A ee2.metaV.l.length ee2.metaV.c)).setCell ⟨ga, 3, none⟩ (.slice ee2.payload.A ee2.payload.l.length ee2.payload.c))) ∧ True) := hi_ (fun w6 w7 ee2 h6 h7 hm => by
      have hlt : ga < w6.heap.size := Nat.lt_of_lt_of_le HEq.out.blk.lt h6.size
      have h9 := HSB.out w7 h7
      have hgW := HGW.out
      have hsz := HSz.out
      have far : ∀ (b i : Nat) (x y z u : Value), b ≠ ga → ((((w7.setCell ⟨ga, 0, none⟩ x).setCell ⟨ga, 1, none⟩ y).setCell ⟨ga, 2, none⟩ z).setCell ⟨ga, 3, none⟩ u).cell? ⟨b, i, none⟩ = w7.cell? ⟨b, i, none⟩ := fun b i x y z u hne => by
        rw [World.cell?_setCell_far _ _ _ _ (by exact fun e => hne e.symm), World.cell?_setCell_far _ _ _ _ (by exact fun e => hne e.symm), World.cell?_setCell_far _ _ _ _ (by exact fun e => hne e.symm), World.cell?_setCell_far _ _ _ _ (by exact fun e => hne e.symm)]
      refine ⟨⟨fun i hi => ?_, ?_, ?_, ?_⟩, hi_ (EAt.lay hm (below_step HBq.out h6).size (HEq.out.blk.below h7 HEq.out.blk.lt) rfl hlt), hi_ ((HHq.out.below h7).four (fun b e1 e2 => by have := (HHq.out.lt b e1).1; omega) _ _ _ _), hi_ (((((below_step HBq.out h7).setCell (by exact hgW) _).setCell (by exact hgW) _).setCell (by exact hgW) _).setCell (by exact hgW) _), trivial⟩
      · rw [far _ _ _ _ _ _ (by omega)]; exact h9.1 i hi
      · rw [far _ _ _ _ _ _ (by omega)]; exact h9.2.1
      · rw [far _ _ _ _ _ _ (by omega)]; exact h9.2.2.1
      · rw [far _ _ _ _ _ _ (by omega)]; exact h9.2.2.2)
    have HFc := hi_ (fun u (hb : Below wq.heap.size wq u) => HFc0.out u (below_step HBq.out hb))
    go_upto_region 23 with fail
    rw [← hwq, ← hgr]
    clear hwq hgr HB HBe HEw HHw hca hhv hix HCell HRf HFc0 hfn hixN hgane hghga
    have hSd := HSB.out wq.drew (below_drew (Below.refl _ _))
    refine wp_region_held_drew (S := (fun w' => (∀ i, i < 9 → w'.cell? ⟨w.heap.size, i, none⟩ = (progCells p)[i]?) ∧ w'.cell? ⟨gr, 0, none⟩ = some (.int .i64 ((k : Nat))) ∧ w'.cell? ⟨gr, 1, none⟩ = some (.int .i64 (f : Nat)) ∧ w'.cell? ⟨gh, ix, none⟩ = some (.int .u32 hv))) (by kernel_rfl) hSd (fun hHeld => ?_)
    refine wpAnyH_take (i := 0) (oi := { dst := some 85, op := Op.load 31 (Operand.tmp 4), type := 31, pos := "phv.go:186", after := #[], guard := none }) (v := ?s23_1v) rfl (by kernel_rfl) (by kernel_rfl) (by kernel_rfl) (fun _ _ _ h => h) (Or.inl ⟨by rfl, ?s23_1y⟩) (by assumption) ?s23_1r
    case s23_1y => (intro w hSw; obtain ⟨t1, t2, t3, t4⟩ := hSw; go_simp; try (with_reducible rfl))
    try simp only [Act.put, sA, sZ, sS]
    refine wpAnyH_take (i := 2) (oi := { dst := some 87, op := Op.load 98 (Operand.tmp 18), type := 98, pos := "phv.go:186", after := #[], guard := none }) (v := ?s23_2v) rfl (by kernel_rfl) (by kernel_rfl) (by kernel_rfl) (fun _ _ _ h => h) (Or.inl ⟨by rfl, ?s23_2y⟩) (by assumption) ?s23_2r
    case s23_2y => (intro w hSw; obtain ⟨t1, t2, t3, t4⟩ := hSw; go_simp; try (with_reducible rfl))
    try simp only [Act.put, sA, sZ, sS]
    refine wpAnyH_take (i := 3) (oi := { dst := some 88, op := Op.move (Operand.tmp 12), type := 53, pos := "phv.go:186", after := #[], guard := none }) (v := ?s23_3v) rfl (by kernel_rfl) (by kernel_rfl) (by kernel_rfl) (fun _ _ _ h => h) (Or.inl ⟨by rfl, ?s23_3y⟩) (by assumption) ?s23_3r
    case s23_3y => (intro w hSw; obtain ⟨t1, t2, t3, t4⟩ := hSw; go_simp; try (with_reducible rfl))
    try simp only [Act.put, sA, sZ, sS]
    refine wpAnyH_take (i := 4) (oi := { dst := some 89, op := Op.load 31 (Operand.tmp 4), type := 31, pos := "phv.go:186", after := #[], guard := none }) (v := ?s23_4v) rfl (by kernel_rfl) (by kernel_rfl) (by kernel_rfl) (fun _ _ _ h => h) (Or.inl ⟨by rfl, ?s23_4y⟩) (by assumption) ?s23_4r
    case s23_4y => (intro w hSw; obtain ⟨t1, t2, t3, t4⟩ := hSw; go_simp; try (with_reducible rfl))
    try simp only [Act.put, sA, sZ, sS]
    refine wpAnyH_take (i := 5) (oi := { dst := some 90, op := Op.load 98 (Operand.tmp 18), type := 98, pos := "phv.go:186", after := #[], guard := none }) (v := ?s23_5v) rfl (by kernel_rfl) (by kernel_rfl) (by kernel_rfl) (fun _ _ _ h => h) (Or.inl ⟨by rfl, ?s23_5y⟩) (by assumption) ?s23_5r
    case s23_5y => (intro w hSw; obtain ⟨t1, t2, t3, t4⟩ := hSw; go_simp; try (with_reducible rfl))
    try simp only [Act.put, sA, sZ, sS]
    refine wpAnyH_ready (rs := [1, 6]) (by kernel_rfl) (by simp) ?_
    refine AllReadyH.cons (o := { dst := some 86, op := Op.load 56 (Operand.tmp 10), type := 56, pos := "phv.go:186", after := #[], guard := none }) rfl (fun K hK => ?_) (AllReadyH.cons (o := { dst := some 91, op := Op.call { callee := Callee.value (Operand.func 72), args := #[Operand.tmp 89, Operand.tmp 90], argTypes := #[31, 98] }, type := 3, pos := "phv.go:186", after := #[{ on := 4, ground := Ground.data }, { on := 5, ground := Ground.data }], guard := none }) rfl (fun K hK => ?_) AllReadyH.nil)
    · skip
      have HEd := hi_ (HEq.out.below (below_drew (Below.refl _ _)))
      have k0 : wq.drew.cell? ⟨ga, 0, none⟩ = some (.slice ee.valid.A ee.valid.l.length ee.valid.c) := HEd.out.blk.cell 0
      have k1 : wq.drew.cell? ⟨ga, 1, none⟩ = some (.slice ee.fields.A ee.fields.l.length ee.fields.c) := HEd.out.blk.cell 1
      have k2 : wq.drew.cell? ⟨ga, 2, none⟩ = some (.slice ee.metaV.A ee.metaV.l.length ee.metaV.c) := HEd.out.blk.cell 2
      have k3 : wq.drew.cell? ⟨ga, 3, none⟩ = some (.slice ee.payload.A ee.payload.l.length ee.payload.c) := HEd.out.blk.cell 3
      go_simp
      refine hK.out _ _ hSd (fun _ => ?_)
      clear hK K k0 k1 k2 k3
      try simp only [Act.put, sA, sZ, sS]
      refine wpAnyH_ready (rs := [6]) (by kernel_rfl) (by simp) ?_
      refine AllReadyH.cons (o := { dst := some 91, op := Op.call { callee := Callee.value (Operand.func 72), args := #[Operand.tmp 89, Operand.tmp 90], argTypes := #[31, 98] }, type := 3, pos := "phv.go:186", after := #[{ on := 4, ground := Ground.data }, { on := 5, ground := Ground.data }], guard := none }) rfl (fun K hK => ?_) AllReadyH.nil
      go_simp
      go_at_call 72
      refine (HFc.out _ (below_drew (Below.refl _ _))).mono ?_
      rintro r w6 ⟨rfl, hb6⟩
      have hb6' : Below wq.heap.size wq w6 := below_step (below_drew (Below.refl _ _)) hb6
      have hS6 := HSB.out w6 hb6'
      have HE6 := hi_ (HEq.out.below hb6')
      refine hK.out _ _ hS6 (fun _ => ?_)
      clear hK K
      try simp only [Act.put, sA, sZ, sS]
      refine wpAnyH_take (i := 7) (oi := { dst := some 92, op := Op.indexAddr 53 (Operand.tmp 88) (Operand.tmp 91), type := 0, pos := "phv.go:186", after := #[{ on := 3, ground := Ground.data }, { on := 6, ground := Ground.data }], guard := none }) (v := ?s23_6v) rfl (by kernel_rfl) (by kernel_rfl) (by kernel_rfl) (fun _ _ _ h => h) (Or.inl ⟨by rfl, ?s23_6y⟩) (by assumption) ?s23_6r
      case s23_6y => (intro w hSw; obtain ⟨t1, t2, t3, t4⟩ := hSw; go_simp; try (with_reducible rfl))
      try simp only [Act.put, sA, sZ, sS]
      refine wpAnyH_take (i := 8) (oi := { dst := some 93, op := Op.load 83 (Operand.tmp 92), type := 83, pos := "phv.go:186", after := #[{ on := 7, ground := Ground.data }], guard := none }) (v := ?s23_7v) rfl (by kernel_rfl) (by kernel_rfl) (by kernel_rfl) (fun _ _ _ h => h) (Or.inl ⟨by rfl, ?s23_7y⟩) (by assumption) ?s23_7r
      case s23_7y => (intro w hSw; obtain ⟨t1, t2, t3, t4⟩ := hSw; go_simp; try (with_reducible rfl))
      try simp only [Act.put, sA, sZ, sS]
      refine wpAnyH_ready (rs := [9]) (by kernel_rfl) (by simp) ?_
      refine AllReadyH.cons (o := { dst := some 94, op := Op.call { callee := Callee.value (Operand.func 71), args := #[Operand.tmp 85, Operand.tmp 86, Operand.tmp 87, Operand.tmp 93], argTypes := #[31, 56, 98, 83] }, type := 56, pos := "phv.go:186", after := #[{ on := 0, ground := Ground.data }, { on := 1, ground := Ground.data }, { on := 2, ground := Ground.data }, { on := 8, ground := Ground.data }, { on := 6, ground := Ground.chain }], guard := none }) rfl (fun K hK => ?_) AllReadyH.nil
      go_simp
      go_at_call 71
      refine (HSt.out w6 hb6').mono ?_
      rintro r w7 ⟨ee2, rfl, hbe2, hm2, hb7⟩
      have hb7' : Below wq.heap.size wq w7 := below_step hb6' hb7
      have hS7 := HSB.out w7 hb7'
      refine hK.out _ _ hS7 (fun _ => ?_)
      clear hK K
      try simp only [Act.put, sA, sZ, sS]
      refine wpAnyH_ready (rs := [10]) (by kernel_rfl) (by simp) ?_
      refine AllReadyH.cons (o := { dst := none, op := Op.store 56 (Operand.tmp 10) (Operand.tmp 94), type := 0, pos := "phv.go:186", after := #[{ on := 9, ground := Ground.data }, { on := 9, ground := Ground.chain }, { on := 0, ground := Ground.phase }, { on := 1, ground := Ground.phase }, { on := 2, ground := Ground.phase }, { on := 3, ground := Ground.phase }, { on := 4, ground := Ground.phase }, { on := 5, ground := Ground.phase }, { on := 6, ground := Ground.phase }, { on := 7, ground := Ground.phase }, { on := 8, ground := Ground.phase }, { on := 9, ground := Ground.phase }], guard := none }) rfl (fun K hK => ?_) AllReadyH.nil
      have HE7 := hi_ (HEq.out.below hb7')
      have k0 : w7.cell? ⟨ga, 0, none⟩ = some (.slice ee.valid.A ee.valid.l.length ee.valid.c) := HE7.out.blk.cell 0
      have k1 : w7.cell? ⟨ga, 1, none⟩ = some (.slice ee.fields.A ee.fields.l.length ee.fields.c) := HE7.out.blk.cell 1
      have k2 : w7.cell? ⟨ga, 2, none⟩ = some (.slice ee.metaV.A ee.metaV.l.length ee.metaV.c) := HE7.out.blk.cell 2
      have k3 : w7.cell? ⟨ga, 3, none⟩ = some (.slice ee.payload.A ee.payload.l.length ee.payload.c) := HE7.out.blk.cell 3
      have kf : ∀ j, w7.frozen? ⟨ga, j, none⟩ = false := fun j => HE7.out.blk.frozen j
      obtain ⟨hS8, HE8, HH8, HB8, HBr8⟩ := HFin.out w6 w7 ee2 hb6' hb7' hm2
      have hK2 := hK.out
      clear hK
      go_simp
      refine hK2 _ _ hS8 (fun _ => ?_)
      clear hK2 K k0 k1 k2 k3 kf hS7 hS8
      try simp only [Act.put, sA, sZ, sS]
      refine wpAnyH_done (by kernel_rfl) ?_ _
      go_wp2
      go_roundw
      case rel => exact ⟨f + 1, ee2, by omega, by go_num, hi_ (hbe2.trans HSe.out), HE8, HH8, HB8.out⟩
      case measure => simp [intOf]; omega
    · skip
      go_simp
      go_at_call 72
      refine (HFc.out _ (below_drew (Below.refl _ _))).mono ?_
      rintro r w6 ⟨rfl, hb6⟩
      have hb6' : Below wq.heap.size wq w6 := below_step (below_drew (Below.refl _ _)) hb6
      have hS6 := HSB.out w6 hb6'
      have HE6 := hi_ (HEq.out.below hb6')
      refine hK.out _ _ hS6 (fun _ => ?_)
      clear hK K
      try simp only [Act.put, sA, sZ, sS]
      refine wpAnyH_take (i := 7) (oi := { dst := some 92, op := Op.indexAddr 53 (Operand.tmp 88) (Operand.tmp 91), type := 0, pos := "phv.go:186", after := #[{ on := 3, ground := Ground.data }, { on := 6, ground := Ground.data }], guard := none }) (v := ?s23_8v) rfl (by kernel_rfl) (by kernel_rfl) (by kernel_rfl) (fun _ _ _ h => h) (Or.inl ⟨by rfl, ?s23_8y⟩) (by assumption) ?s23_8r
      case s23_8y => (intro w hSw; obtain ⟨t1, t2, t3, t4⟩ := hSw; go_simp; try (with_reducible rfl))
      try simp only [Act.put, sA, sZ, sS]
      refine wpAnyH_take (i := 8) (oi := { dst := some 93, op := Op.load 83 (Operand.tmp 92), type := 83, pos := "phv.go:186", after := #[{ on := 7, ground := Ground.data }], guard := none }) (v := ?s23_9v) rfl (by kernel_rfl) (by kernel_rfl) (by kernel_rfl) (fun _ _ _ h => h) (Or.inl ⟨by rfl, ?s23_9y⟩) (by assumption) ?s23_9r
      case s23_9y => (intro w hSw; obtain ⟨t1, t2, t3, t4⟩ := hSw; go_simp; try (with_reducible rfl))
      try simp only [Act.put, sA, sZ, sS]
      refine wpAnyH_ready (rs := [1]) (by kernel_rfl) (by simp) ?_
      refine AllReadyH.cons (o := { dst := some 86, op := Op.load 56 (Operand.tmp 10), type := 56, pos := "phv.go:186", after := #[], guard := none }) rfl (fun K hK => ?_) AllReadyH.nil
      have k0 : w6.cell? ⟨ga, 0, none⟩ = some (.slice ee.valid.A ee.valid.l.length ee.valid.c) := HE6.out.blk.cell 0
      have k1 : w6.cell? ⟨ga, 1, none⟩ = some (.slice ee.fields.A ee.fields.l.length ee.fields.c) := HE6.out.blk.cell 1
      have k2 : w6.cell? ⟨ga, 2, none⟩ = some (.slice ee.metaV.A ee.metaV.l.length ee.metaV.c) := HE6.out.blk.cell 2
      have k3 : w6.cell? ⟨ga, 3, none⟩ = some (.slice ee.payload.A ee.payload.l.length ee.payload.c) := HE6.out.blk.cell 3
      go_simp
      refine hK.out _ _ hS6 (fun _ => ?_)
      clear hK K k0 k1 k2 k3
      try simp only [Act.put, sA, sZ, sS]
      refine wpAnyH_ready (rs := [9]) (by kernel_rfl) (by simp) ?_
      refine AllReadyH.cons (o := { dst := some 94, op := Op.call { callee := Callee.value (Operand.func 71), args := #[Operand.tmp 85, Operand.tmp 86, Operand.tmp 87, Operand.tmp 93], argTypes := #[31, 56, 98, 83] }, type := 56, pos := "phv.go:186", after := #[{ on := 0, ground := Ground.data }, { on := 1, ground := Ground.data }, { on := 2, ground := Ground.data }, { on := 8, ground := Ground.data }, { on := 6, ground := Ground.chain }], guard := none }) rfl (fun K hK => ?_) AllReadyH.nil
      go_simp
      go_at_call 71
      refine (HSt.out w6 hb6').mono ?_
      rintro r w7 ⟨ee2, rfl, hbe2, hm2, hb7⟩
      have hb7' : Below wq.heap.size wq w7 := below_step hb6' hb7
      have hS7 := HSB.out w7 hb7'
      refine hK.out _ _ hS7 (fun _ => ?_)
      clear hK K
      try simp only [Act.put, sA, sZ, sS]
      refine wpAnyH_ready (rs := [10]) (by kernel_rfl) (by simp) ?_
      refine AllReadyH.cons (o := { dst := none, op := Op.store 56 (Operand.tmp 10) (Operand.tmp 94), type := 0, pos := "phv.go:186", after := #[{ on := 9, ground := Ground.data }, { on := 9, ground := Ground.chain }, { on := 0, ground := Ground.phase }, { on := 1, ground := Ground.phase }, { on := 2, ground := Ground.phase }, { on := 3, ground := Ground.phase }, { on := 4, ground := Ground.phase }, { on := 5, ground := Ground.phase }, { on := 6, ground := Ground.phase }, { on := 7, ground := Ground.phase }, { on := 8, ground := Ground.phase }, { on := 9, ground := Ground.phase }], guard := none }) rfl (fun K hK => ?_) AllReadyH.nil
      have HE7 := hi_ (HEq.out.below hb7')
      have k0 : w7.cell? ⟨ga, 0, none⟩ = some (.slice ee.valid.A ee.valid.l.length ee.valid.c) := HE7.out.blk.cell 0
      have k1 : w7.cell? ⟨ga, 1, none⟩ = some (.slice ee.fields.A ee.fields.l.length ee.fields.c) := HE7.out.blk.cell 1
      have k2 : w7.cell? ⟨ga, 2, none⟩ = some (.slice ee.metaV.A ee.metaV.l.length ee.metaV.c) := HE7.out.blk.cell 2
      have k3 : w7.cell? ⟨ga, 3, none⟩ = some (.slice ee.payload.A ee.payload.l.length ee.payload.c) := HE7.out.blk.cell 3
      have kf : ∀ j, w7.frozen? ⟨ga, j, none⟩ = false := fun j => HE7.out.blk.frozen j
      obtain ⟨hS8, HE8, HH8, HB8, HBr8⟩ := HFin.out w6 w7 ee2 hb6' hb7' hm2
      have hK2 := hK.out
      clear hK
      go_simp
      refine hK2 _ _ hS8 (fun _ => ?_)
      clear hK2 K k0 k1 k2 k3 kf hS7 hS8
      try simp only [Act.put, sA, sZ, sS]
      refine wpAnyH_done (by kernel_rfl) ?_ _
      go_wp2
      go_roundw
      case rel => exact ⟨f + 1, ee2, by omega, by go_num, hi_ (hbe2.trans HSe.out), HE8, HH8, HB8.out⟩
      case measure => simp [intOf]; omega
  have hkl : k = p.headers.l.length := by omega
  have HBv : Hid (ee.bare = stateE p (fun i => decide (heldM l c.bare (fN p + i) ≠ 0)) (fun i j => if True then (if heldM l c.bare (fN p + i) ≠ 0 then cutV (widthAt p i j) (heldM l c.bare (preF p i + j)) else 0) else 0) (fun j => if j < 0 then cutV (widthAt p (-1) j) (heldM l c.bare (fN p + p.headers.l.length + j)) else 0) pl) := hi_ (by
    rw [HBe.out]
    refine stateE_congr (fun _ _ => rfl) (fun h hh _ _ => ?_) (fun _ _ => by simp)
    rw [hkl, if_pos hh, if_pos trivial])
  have HBs := hi_ HB
  have HEs := HEq
  have HHs := HHq
  have hq := hp0 wr HB
  clear HBe HB hkl HEq HHq
  go_wp2
  clear hq
  go_loopw [19, 20, 100] (fun _ _ iv wr => ∃ (f : Nat) (ee : EnvD), f ≤ p.metadata.l.length ∧ iv = .int .i64 f ∧ Hid (ee.bare = stateE p (fun i => decide (heldM l c.bare (fN p + i) ≠ 0)) (fun i j => if True then (if heldM l c.bare (fN p + i) ≠ 0 then cutV (widthAt p i j) (heldM l c.bare (preF p i + j)) else 0) else 0) (fun j => if j < f then cutV (widthAt p (-1) j) (heldM l c.bare (fN p + p.headers.l.length + j)) else 0) pl) ∧ Hid (EAt wr W.heap.size ga ee) ∧ Hid (OwnL wr gh 83 ucell ⟨hL, some ⟨gh, 0, none⟩, N⟩) ∧ Below W.heap.size W wr) (fun _ _ i _ => p.metadata.l.length - (intOf i).toNat)
  case atStart => exact ⟨0, ee, Nat.zero_le _, rfl, HBv, HEs, HHs, HBs.out⟩
  clear HBv HEs HHs HBs
  case round =>
  obtain ⟨f, ee, hf, rfl, HBe, HEw, HHw, HB⟩ := hrel
  by_cases hlf : f < p.metadata.l.length
  case pos =>
    obtain ⟨ix, hix⟩ : ∃ ix, ix = fN p + p.headers.l.length + f := ⟨_, rfl⟩
    have hixN : ix < N := by have h8 := HCN.out; rw [hix]; omega
    have hixi : (ix : Int) < (N : Int) := by omega
    have HFc0 := hi_ (fun u (hb : Below W.heap.size W u) => metaCell_any p f hlf u (HO.out u hb) HS.out)
    rw [← hix] at HFc0
    obtain ⟨hv, hhv⟩ : ∃ hv, hv = heldM l c.bare ix := ⟨_, rfl⟩
    have HSe : Hid (setE p ee.bare (-1) f hv = stateE p (fun i => decide (heldM l c.bare (fN p + i) ≠ 0)) (fun i j => if True then (if heldM l c.bare (fN p + i) ≠ 0 then cutV (widthAt p i j) (heldM l c.bare (preF p i + j)) else 0) else 0) (fun j => if j < f + 1 then cutV (widthAt p (-1) j) (heldM l c.bare (fN p + p.headers.l.length + j)) else 0) pl) := hi_ (by
      rw [HBe.out, set_meta]
      refine stateE_congr (fun _ _ => rfl) (fun _ _ _ _ => rfl) (fun j _ => ?_)
      by_cases h1 : j = f
      · subst h1
        rw [if_pos (show j < j + 1 by omega), if_neg (show ¬ j < j by omega), hhv, hix]
        unfold cutV
        by_cases h3 : widthAt p (-1) j = 0
        · rw [if_pos h3, if_neg (by simp [h3])]
        · rw [if_neg h3, if_pos ⟨rfl, h3⟩]
      · rw [if_neg (fun h2 => h1 h2.1)]
        by_cases h3 : j < f
        · rw [if_pos h3, if_pos (show j < f + 1 by omega)]
        · rw [if_neg h3, if_neg (show ¬ j < f + 1 by omega)])
    have hca := @World.cell?_alloc_some
    refine Exists.elim (⟨_, rfl⟩ : ∃ wq, wq = wr.alloc (.cells #[.int .i64 (-1), .int .i64 (f : Nat)] 98)) fun wq hwq => ?_
    obtain ⟨gr, hgr⟩ : ∃ gr, gr = wr.heap.size := ⟨_, rfl⟩
    have HBq := hi_ (show Below W.heap.size W wq by rw [hwq]; exact below_step HB (below1 _ _))
    have HEq := hi_ (show EAt wq W.heap.size ga ee by rw [hwq]; exact HEw.out.below (below1 _ _))
    have HHq := hi_ (show OwnL wq gh 83 ucell ⟨hL, some ⟨gh, 0, none⟩, N⟩ by rw [hwq]; exact HHw.out.below (below1 _ _))
    have HCell : Hid (∀ u, Below wq.heap.size wq u → u.cell? ⟨gh, ix, none⟩ = some (.int .u32 hv)) := hi_ (by
      obtain ⟨gq, oq, eq1, dq⟩ := ucell_atA (HHq.out.ok (fun _ => rfl)).1 (i := ix) (by rw [HLen.out]; exact hixN)
      simp only at eq1 dq
      injection eq1 with eq1
      injection eq1 with eq1 eq2
      subst eq1 eq2
      intro u hu
      have h9 := dq u hu
      rw [Nat.zero_add] at h9
      rw [h9, HLat.out, hhv])
    have HRf : Hid (Blk wq gr 98 #[.int .i64 ((-1)), .int .i64 (f : Nat)]) := hi_ (by rw [hwq, hgr]; exact Blk.new _ _ _)
    have HSB : Hid (∀ u, Below wq.heap.size wq u → (fun w' => (∀ i, i < 9 → w'.cell? ⟨w.heap.size, i, none⟩ = (progCells p)[i]?) ∧ w'.cell? ⟨gr, 0, none⟩ = some (.int .i64 ((-1))) ∧ w'.cell? ⟨gr, 1, none⟩ = some (.int .i64 (f : Nat)) ∧ w'.cell? ⟨gh, ix, none⟩ = some (.int .u32 hv)) u) := hi_ (fun u hu => ⟨hp0 u (below_step HBq.out hu), (HRf.out.below hu HRf.out.lt).cell 0, (HRf.out.below hu HRf.out.lt).cell 1, HCell.out u hu⟩)
    have hgane : gr ≠ ga := by rw [hgr]; have := HEw.out.blk.lt; omega
    have hghga : gh ≠ ga := by omega
    have HFit : Hid (EnvFit ee.bare) := hi_ (by rw [HBe.out]; exact state_fit HS.out hpl)
    have HSt := hi_ (fun u (hu : Below wq.heap.size wq u) => envSet_any p ee ((-1)) f hv u (HO.out u (below_step HBq.out hu)) (HEq.out.ok.below hu) HFit.out)
    have HFin : Hid (∀ (w6 w7 : World) (ee2 : EnvD), Below wq.heap.size wq w6 → Below wq.heap.size wq w7 → EnvMine w7 w6.heap.size ee2 →
      ((fun w' => (∀ i, i < 9 → w'.cell? ⟨w.heap.size, i, none⟩ = (progCells p)[i]?) ∧ w'.cell? ⟨gr, 0, none⟩ = some (.int .i64 ((-1))) ∧ w'.cell? ⟨gr, 1, none⟩ = some (.int .i64 (f : Nat)) ∧ w'.cell? ⟨gh, ix, none⟩ = some (.int .u32 hv)) ((((w7.setCell ⟨ga, 0, none⟩ (.slice ee2.valid.A ee2.valid.l.length ee2.valid.c)).setCell ⟨ga, 1, none⟩ (.slice ee2.fields.A ee2.fields.l.length ee2.fields.c)).setCell ⟨ga, 2, none⟩ (.slice ee2.metaV.A ee2.metaV.l.length ee2.metaV.c)).setCell ⟨ga, 3, none⟩ (.slice ee2.payload.A ee2.payload.l.length ee2.payload.c))) ∧
      Hid (EAt ((((w7.setCell ⟨ga, 0, none⟩ (.slice ee2.valid.A ee2.valid.l.length ee2.valid.c)).setCell ⟨ga, 1, none⟩ (.slice ee2.fields.A ee2.fields.l.length ee2.fields.c)).setCell ⟨ga, 2, none⟩ (.slice ee2.metaV.A ee2.metaV.l.length ee2.metaV.c)).setCell ⟨ga, 3, none⟩ (.slice ee2.payload.A ee2.payload.l.length ee2.payload.c)) W.heap.size ga ee2) ∧
      Hid (OwnL ((((w7.setCell ⟨ga, 0, none⟩ (.slice ee2.valid.A ee2.valid.l.length ee2.valid.c)).setCell ⟨ga, 1, none⟩ (.slice ee2.fields.A ee2.fields.l.length ee2.fields.c)).setCell ⟨ga, 2, none⟩ (.slice ee2.metaV.A ee2.metaV.l.length ee2.metaV.c)).setCell ⟨ga, 3, none⟩ (.slice ee2.payload.A ee2.payload.l.length ee2.payload.c)) gh 83 ucell ⟨hL, some ⟨gh, 0, none⟩, N⟩) ∧
      Hid (Below W.heap.size W ((((w7.setCell ⟨ga, 0, none⟩ (.slice ee2.valid.A ee2.valid.l.length ee2.valid.c)).setCell ⟨ga, 1, none⟩ (.slice ee2.fields.A ee2.fields.l.length ee2.fields.c)).setCell ⟨ga, 2, none⟩ (.slice ee2.metaV.A ee2.metaV.l.length ee2.metaV.c)).setCell ⟨ga, 3, none⟩ (.slice ee2.payload.A ee2.payload.l.length ee2.payload.c))) ∧ True) := hi_ (fun w6 w7 ee2 h6 h7 hm => by
      have hlt : ga < w6.heap.size := Nat.lt_of_lt_of_le HEq.out.blk.lt h6.size
      have h9 := HSB.out w7 h7
      have hgW := HGW.out
      have hsz := HSz.out
      have far : ∀ (b i : Nat) (x y z u : Value), b ≠ ga → ((((w7.setCell ⟨ga, 0, none⟩ x).setCell ⟨ga, 1, none⟩ y).setCell ⟨ga, 2, none⟩ z).setCell ⟨ga, 3, none⟩ u).cell? ⟨b, i, none⟩ = w7.cell? ⟨b, i, none⟩ := fun b i x y z u hne => by
        rw [World.cell?_setCell_far _ _ _ _ (by exact fun e => hne e.symm), World.cell?_setCell_far _ _ _ _ (by exact fun e => hne e.symm), World.cell?_setCell_far _ _ _ _ (by exact fun e => hne e.symm), World.cell?_setCell_far _ _ _ _ (by exact fun e => hne e.symm)]
      refine ⟨⟨fun i hi => ?_, ?_, ?_, ?_⟩, hi_ (EAt.lay hm (below_step HBq.out h6).size (HEq.out.blk.below h7 HEq.out.blk.lt) rfl hlt), hi_ ((HHq.out.below h7).four (fun b e1 e2 => by have := (HHq.out.lt b e1).1; omega) _ _ _ _), hi_ (((((below_step HBq.out h7).setCell (by exact hgW) _).setCell (by exact hgW) _).setCell (by exact hgW) _).setCell (by exact hgW) _), trivial⟩
      · rw [far _ _ _ _ _ _ (by omega)]; exact h9.1 i hi
      · rw [far _ _ _ _ _ _ (by omega)]; exact h9.2.1
      · rw [far _ _ _ _ _ _ (by omega)]; exact h9.2.2.1
      · rw [far _ _ _ _ _ _ (by omega)]; exact h9.2.2.2)
    have HFc := hi_ (fun u (hb : Below wq.heap.size wq u) => HFc0.out u (below_step HBq.out hb))
    go_upto_region 30 with fail
    rw [← hwq, ← hgr]
    clear hwq hgr HB HBe HEw HHw hca hhv hix HCell HRf HFc0 hixN hgane hghga
    have hSd := HSB.out wq.drew (below_drew (Below.refl _ _))
    refine wp_region_held_drew (S := (fun w' => (∀ i, i < 9 → w'.cell? ⟨w.heap.size, i, none⟩ = (progCells p)[i]?) ∧ w'.cell? ⟨gr, 0, none⟩ = some (.int .i64 ((-1))) ∧ w'.cell? ⟨gr, 1, none⟩ = some (.int .i64 (f : Nat)) ∧ w'.cell? ⟨gh, ix, none⟩ = some (.int .u32 hv))) (by kernel_rfl) hSd (fun hHeld => ?_)
    refine wpAnyH_take (i := 0) (oi := { dst := some 105, op := Op.load 31 (Operand.tmp 4), type := 31, pos := "phv.go:191", after := #[], guard := none }) (v := ?s30_1v) rfl (by kernel_rfl) (by kernel_rfl) (by kernel_rfl) (fun _ _ _ h => h) (Or.inl ⟨by rfl, ?s30_1y⟩) (by assumption) ?s30_1r
    case s30_1y => (intro w hSw; obtain ⟨t1, t2, t3, t4⟩ := hSw; go_simp; try (with_reducible rfl))
    try simp only [Act.put, sA, sZ, sS]
    refine wpAnyH_take (i := 2) (oi := { dst := some 107, op := Op.load 98 (Operand.tmp 20), type := 98, pos := "phv.go:191", after := #[], guard := none }) (v := ?s30_2v) rfl (by kernel_rfl) (by kernel_rfl) (by kernel_rfl) (fun _ _ _ h => h) (Or.inl ⟨by rfl, ?s30_2y⟩) (by assumption) ?s30_2r
    case s30_2y => (intro w hSw; obtain ⟨t1, t2, t3, t4⟩ := hSw; go_simp; try (with_reducible rfl))
    try simp only [Act.put, sA, sZ, sS]
    refine wpAnyH_take (i := 3) (oi := { dst := some 108, op := Op.move (Operand.tmp 12), type := 53, pos := "phv.go:191", after := #[], guard := none }) (v := ?s30_3v) rfl (by kernel_rfl) (by kernel_rfl) (by kernel_rfl) (fun _ _ _ h => h) (Or.inl ⟨by rfl, ?s30_3y⟩) (by assumption) ?s30_3r
    case s30_3y => (intro w hSw; obtain ⟨t1, t2, t3, t4⟩ := hSw; go_simp; try (with_reducible rfl))
    try simp only [Act.put, sA, sZ, sS]
    refine wpAnyH_take (i := 4) (oi := { dst := some 109, op := Op.load 31 (Operand.tmp 4), type := 31, pos := "phv.go:191", after := #[], guard := none }) (v := ?s30_4v) rfl (by kernel_rfl) (by kernel_rfl) (by kernel_rfl) (fun _ _ _ h => h) (Or.inl ⟨by rfl, ?s30_4y⟩) (by assumption) ?s30_4r
    case s30_4y => (intro w hSw; obtain ⟨t1, t2, t3, t4⟩ := hSw; go_simp; try (with_reducible rfl))
    try simp only [Act.put, sA, sZ, sS]
    refine wpAnyH_take (i := 5) (oi := { dst := some 110, op := Op.load 98 (Operand.tmp 20), type := 98, pos := "phv.go:191", after := #[], guard := none }) (v := ?s30_5v) rfl (by kernel_rfl) (by kernel_rfl) (by kernel_rfl) (fun _ _ _ h => h) (Or.inl ⟨by rfl, ?s30_5y⟩) (by assumption) ?s30_5r
    case s30_5y => (intro w hSw; obtain ⟨t1, t2, t3, t4⟩ := hSw; go_simp; try (with_reducible rfl))
    try simp only [Act.put, sA, sZ, sS]
    refine wpAnyH_ready (rs := [1, 6]) (by kernel_rfl) (by simp) ?_
    refine AllReadyH.cons (o := { dst := some 106, op := Op.load 56 (Operand.tmp 10), type := 56, pos := "phv.go:191", after := #[], guard := none }) rfl (fun K hK => ?_) (AllReadyH.cons (o := { dst := some 111, op := Op.call { callee := Callee.value (Operand.func 72), args := #[Operand.tmp 109, Operand.tmp 110], argTypes := #[31, 98] }, type := 3, pos := "phv.go:191", after := #[{ on := 4, ground := Ground.data }, { on := 5, ground := Ground.data }], guard := none }) rfl (fun K hK => ?_) AllReadyH.nil)
    · skip
      have HEd := hi_ (HEq.out.below (below_drew (Below.refl _ _)))
      have k0 : wq.drew.cell? ⟨ga, 0, none⟩ = some (.slice ee.valid.A ee.valid.l.length ee.valid.c) := HEd.out.blk.cell 0
      have k1 : wq.drew.cell? ⟨ga, 1, none⟩ = some (.slice ee.fields.A ee.fields.l.length ee.fields.c) := HEd.out.blk.cell 1
      have k2 : wq.drew.cell? ⟨ga, 2, none⟩ = some (.slice ee.metaV.A ee.metaV.l.length ee.metaV.c) := HEd.out.blk.cell 2
      have k3 : wq.drew.cell? ⟨ga, 3, none⟩ = some (.slice ee.payload.A ee.payload.l.length ee.payload.c) := HEd.out.blk.cell 3
      go_simp
      refine hK.out _ _ hSd (fun _ => ?_)
      clear hK K k0 k1 k2 k3
      try simp only [Act.put, sA, sZ, sS]
      refine wpAnyH_ready (rs := [6]) (by kernel_rfl) (by simp) ?_
      refine AllReadyH.cons (o := { dst := some 111, op := Op.call { callee := Callee.value (Operand.func 72), args := #[Operand.tmp 109, Operand.tmp 110], argTypes := #[31, 98] }, type := 3, pos := "phv.go:191", after := #[{ on := 4, ground := Ground.data }, { on := 5, ground := Ground.data }], guard := none }) rfl (fun K hK => ?_) AllReadyH.nil
      go_simp
      go_at_call 72
      refine (HFc.out _ (below_drew (Below.refl _ _))).mono ?_
      rintro r w6 ⟨rfl, hb6⟩
      have hb6' : Below wq.heap.size wq w6 := below_step (below_drew (Below.refl _ _)) hb6
      have hS6 := HSB.out w6 hb6'
      have HE6 := hi_ (HEq.out.below hb6')
      refine hK.out _ _ hS6 (fun _ => ?_)
      clear hK K
      try simp only [Act.put, sA, sZ, sS]
      refine wpAnyH_take (i := 7) (oi := { dst := some 112, op := Op.indexAddr 53 (Operand.tmp 108) (Operand.tmp 111), type := 0, pos := "phv.go:191", after := #[{ on := 3, ground := Ground.data }, { on := 6, ground := Ground.data }], guard := none }) (v := ?s30_6v) rfl (by kernel_rfl) (by kernel_rfl) (by kernel_rfl) (fun _ _ _ h => h) (Or.inl ⟨by rfl, ?s30_6y⟩) (by assumption) ?s30_6r
      case s30_6y => (intro w hSw; obtain ⟨t1, t2, t3, t4⟩ := hSw; go_simp; try (with_reducible rfl))
      try simp only [Act.put, sA, sZ, sS]
      refine wpAnyH_take (i := 8) (oi := { dst := some 113, op := Op.load 83 (Operand.tmp 112), type := 83, pos := "phv.go:191", after := #[{ on := 7, ground := Ground.data }], guard := none }) (v := ?s30_7v) rfl (by kernel_rfl) (by kernel_rfl) (by kernel_rfl) (fun _ _ _ h => h) (Or.inl ⟨by rfl, ?s30_7y⟩) (by assumption) ?s30_7r
      case s30_7y => (intro w hSw; obtain ⟨t1, t2, t3, t4⟩ := hSw; go_simp; try (with_reducible rfl))
      try simp only [Act.put, sA, sZ, sS]
      refine wpAnyH_ready (rs := [9]) (by kernel_rfl) (by simp) ?_
      refine AllReadyH.cons (o := { dst := some 114, op := Op.call { callee := Callee.value (Operand.func 71), args := #[Operand.tmp 105, Operand.tmp 106, Operand.tmp 107, Operand.tmp 113], argTypes := #[31, 56, 98, 83] }, type := 56, pos := "phv.go:191", after := #[{ on := 0, ground := Ground.data }, { on := 1, ground := Ground.data }, { on := 2, ground := Ground.data }, { on := 8, ground := Ground.data }, { on := 6, ground := Ground.chain }], guard := none }) rfl (fun K hK => ?_) AllReadyH.nil
      go_simp
      go_at_call 71
      refine (HSt.out w6 hb6').mono ?_
      rintro r w7 ⟨ee2, rfl, hbe2, hm2, hb7⟩
      have hb7' : Below wq.heap.size wq w7 := below_step hb6' hb7
      have hS7 := HSB.out w7 hb7'
      refine hK.out _ _ hS7 (fun _ => ?_)
      clear hK K
      try simp only [Act.put, sA, sZ, sS]
      refine wpAnyH_ready (rs := [10]) (by kernel_rfl) (by simp) ?_
      refine AllReadyH.cons (o := { dst := none, op := Op.store 56 (Operand.tmp 10) (Operand.tmp 114), type := 0, pos := "phv.go:191", after := #[{ on := 9, ground := Ground.data }, { on := 9, ground := Ground.chain }, { on := 0, ground := Ground.phase }, { on := 1, ground := Ground.phase }, { on := 2, ground := Ground.phase }, { on := 3, ground := Ground.phase }, { on := 4, ground := Ground.phase }, { on := 5, ground := Ground.phase }, { on := 6, ground := Ground.phase }, { on := 7, ground := Ground.phase }, { on := 8, ground := Ground.phase }, { on := 9, ground := Ground.phase }], guard := none }) rfl (fun K hK => ?_) AllReadyH.nil
      have HE7 := hi_ (HEq.out.below hb7')
      have k0 : w7.cell? ⟨ga, 0, none⟩ = some (.slice ee.valid.A ee.valid.l.length ee.valid.c) := HE7.out.blk.cell 0
      have k1 : w7.cell? ⟨ga, 1, none⟩ = some (.slice ee.fields.A ee.fields.l.length ee.fields.c) := HE7.out.blk.cell 1
      have k2 : w7.cell? ⟨ga, 2, none⟩ = some (.slice ee.metaV.A ee.metaV.l.length ee.metaV.c) := HE7.out.blk.cell 2
      have k3 : w7.cell? ⟨ga, 3, none⟩ = some (.slice ee.payload.A ee.payload.l.length ee.payload.c) := HE7.out.blk.cell 3
      have kf : ∀ j, w7.frozen? ⟨ga, j, none⟩ = false := fun j => HE7.out.blk.frozen j
      obtain ⟨hS8, HE8, HH8, HB8, HBr8⟩ := HFin.out w6 w7 ee2 hb6' hb7' hm2
      have hK2 := hK.out
      clear hK
      go_simp
      refine hK2 _ _ hS8 (fun _ => ?_)
      clear hK2 K k0 k1 k2 k3 kf hS7 hS8
      try simp only [Act.put, sA, sZ, sS]
      refine wpAnyH_done (by kernel_rfl) ?_ _
      go_wp2
      go_roundw
      case rel => exact ⟨f + 1, ee2, by omega, by go_num, hi_ (hbe2.trans HSe.out), HE8, HH8, HB8.out⟩
      case measure => simp [intOf]; omega
    · skip
      go_simp
      go_at_call 72
      refine (HFc.out _ (below_drew (Below.refl _ _))).mono ?_
      rintro r w6 ⟨rfl, hb6⟩
      have hb6' : Below wq.heap.size wq w6 := below_step (below_drew (Below.refl _ _)) hb6
      have hS6 := HSB.out w6 hb6'
      have HE6 := hi_ (HEq.out.below hb6')
      refine hK.out _ _ hS6 (fun _ => ?_)
      clear hK K
      try simp only [Act.put, sA, sZ, sS]
      refine wpAnyH_take (i := 7) (oi := { dst := some 112, op := Op.indexAddr 53 (Operand.tmp 108) (Operand.tmp 111), type := 0, pos := "phv.go:191", after := #[{ on := 3, ground := Ground.data }, { on := 6, ground := Ground.data }], guard := none }) (v := ?s30_8v) rfl (by kernel_rfl) (by kernel_rfl) (by kernel_rfl) (fun _ _ _ h => h) (Or.inl ⟨by rfl, ?s30_8y⟩) (by assumption) ?s30_8r
      case s30_8y => (intro w hSw; obtain ⟨t1, t2, t3, t4⟩ := hSw; go_simp; try (with_reducible rfl))
      try simp only [Act.put, sA, sZ, sS]
      refine wpAnyH_take (i := 8) (oi := { dst := some 113, op := Op.load 83 (Operand.tmp 112), type := 83, pos := "phv.go:191", after := #[{ on := 7, ground := Ground.data }], guard := none }) (v := ?s30_9v) rfl (by kernel_rfl) (by kernel_rfl) (by kernel_rfl) (fun _ _ _ h => h) (Or.inl ⟨by rfl, ?s30_9y⟩) (by assumption) ?s30_9r
      case s30_9y => (intro w hSw; obtain ⟨t1, t2, t3, t4⟩ := hSw; go_simp; try (with_reducible rfl))
      try simp only [Act.put, sA, sZ, sS]
      refine wpAnyH_ready (rs := [1]) (by kernel_rfl) (by simp) ?_
      refine AllReadyH.cons (o := { dst := some 106, op := Op.load 56 (Operand.tmp 10), type := 56, pos := "phv.go:191", after := #[], guard := none }) rfl (fun K hK => ?_) AllReadyH.nil
      have k0 : w6.cell? ⟨ga, 0, none⟩ = some (.slice ee.valid.A ee.valid.l.length ee.valid.c) := HE6.out.blk.cell 0
      have k1 : w6.cell? ⟨ga, 1, none⟩ = some (.slice ee.fields.A ee.fields.l.length ee.fields.c) := HE6.out.blk.cell 1
      have k2 : w6.cell? ⟨ga, 2, none⟩ = some (.slice ee.metaV.A ee.metaV.l.length ee.metaV.c) := HE6.out.blk.cell 2
      have k3 : w6.cell? ⟨ga, 3, none⟩ = some (.slice ee.payload.A ee.payload.l.length ee.payload.c) := HE6.out.blk.cell 3
      go_simp
      refine hK.out _ _ hS6 (fun _ => ?_)
      clear hK K k0 k1 k2 k3
      try simp only [Act.put, sA, sZ, sS]
      refine wpAnyH_ready (rs := [9]) (by kernel_rfl) (by simp) ?_
      refine AllReadyH.cons (o := { dst := some 114, op := Op.call { callee := Callee.value (Operand.func 71), args := #[Operand.tmp 105, Operand.tmp 106, Operand.tmp 107, Operand.tmp 113], argTypes := #[31, 56, 98, 83] }, type := 56, pos := "phv.go:191", after := #[{ on := 0, ground := Ground.data }, { on := 1, ground := Ground.data }, { on := 2, ground := Ground.data }, { on := 8, ground := Ground.data }, { on := 6, ground := Ground.chain }], guard := none }) rfl (fun K hK => ?_) AllReadyH.nil
      go_simp
      go_at_call 71
      refine (HSt.out w6 hb6').mono ?_
      rintro r w7 ⟨ee2, rfl, hbe2, hm2, hb7⟩
      have hb7' : Below wq.heap.size wq w7 := below_step hb6' hb7
      have hS7 := HSB.out w7 hb7'
      refine hK.out _ _ hS7 (fun _ => ?_)
      clear hK K
      try simp only [Act.put, sA, sZ, sS]
      refine wpAnyH_ready (rs := [10]) (by kernel_rfl) (by simp) ?_
      refine AllReadyH.cons (o := { dst := none, op := Op.store 56 (Operand.tmp 10) (Operand.tmp 114), type := 0, pos := "phv.go:191", after := #[{ on := 9, ground := Ground.data }, { on := 9, ground := Ground.chain }, { on := 0, ground := Ground.phase }, { on := 1, ground := Ground.phase }, { on := 2, ground := Ground.phase }, { on := 3, ground := Ground.phase }, { on := 4, ground := Ground.phase }, { on := 5, ground := Ground.phase }, { on := 6, ground := Ground.phase }, { on := 7, ground := Ground.phase }, { on := 8, ground := Ground.phase }, { on := 9, ground := Ground.phase }], guard := none }) rfl (fun K hK => ?_) AllReadyH.nil
      have HE7 := hi_ (HEq.out.below hb7')
      have k0 : w7.cell? ⟨ga, 0, none⟩ = some (.slice ee.valid.A ee.valid.l.length ee.valid.c) := HE7.out.blk.cell 0
      have k1 : w7.cell? ⟨ga, 1, none⟩ = some (.slice ee.fields.A ee.fields.l.length ee.fields.c) := HE7.out.blk.cell 1
      have k2 : w7.cell? ⟨ga, 2, none⟩ = some (.slice ee.metaV.A ee.metaV.l.length ee.metaV.c) := HE7.out.blk.cell 2
      have k3 : w7.cell? ⟨ga, 3, none⟩ = some (.slice ee.payload.A ee.payload.l.length ee.payload.c) := HE7.out.blk.cell 3
      have kf : ∀ j, w7.frozen? ⟨ga, j, none⟩ = false := fun j => HE7.out.blk.frozen j
      obtain ⟨hS8, HE8, HH8, HB8, HBr8⟩ := HFin.out w6 w7 ee2 hb6' hb7' hm2
      have hK2 := hK.out
      clear hK
      go_simp
      refine hK2 _ _ hS8 (fun _ => ?_)
      clear hK2 K k0 k1 k2 k3 kf hS7 hS8
      try simp only [Act.put, sA, sZ, sS]
      refine wpAnyH_done (by kernel_rfl) ?_ _
      go_wp2
      go_roundw
      case rel => exact ⟨f + 1, ee2, by omega, by go_num, hi_ (hbe2.trans HSe.out), HE8, HH8, HB8.out⟩
      case measure => simp [intOf]; omega
  have hkl : f = p.metadata.l.length := by omega
  have HBv : Hid (ee.bare = storeM p l c.bare pl) := hi_ (by
    rw [HBe.out]
    unfold storeM
    refine stateE_congr (fun _ _ => rfl) (fun _ _ _ _ => by rw [if_pos trivial]) (fun j hj => ?_)
    rw [if_pos (show j < f by omega)])
  have HBs := hi_ HB
  have HEs := HEw
  clear HBe HB hkl HEw HHw HLat HLen
  go_wp2
  obtain ⟨i0, hi, hz0, hz1, hz2⟩ := info_parts info_bool
  refine Exists.elim (⟨_, rfl⟩ : ∃ wS, wS = wr) fun wS hwS => ?_
  rw [← hwS] at HEs HBs ⊢
  clear hwS
  go_loopw [21, 22] (fun out iv wr => ∃ (m : Nat) (bs : List Bool) (A : Option Addr) (cp : Nat), (N + m ≤ l.length ∨ m = 0) ∧ iv = .int .i64 (N + m : Nat) ∧ out = .slice A m cp ∧ m ≤ 1000 ∧ Hid (bs.length = m ∧ bs = ((l.drop N).take m).map (fun s => decide (getC c.bare s ≠ 0)) ∧ OwnL wr wS.heap.size 4 bcell ⟨bs, A, cp⟩) ∧ Below wS.heap.size wS wr) (fun _ i _ => l.length - (intOf i).toNat)
  case atStart => exact ⟨0, [], none, 0, .inr rfl, rfl, rfl, Nat.zero_le _, hi_ ⟨rfl, by simp, World.ownsRow_nil _ _ _ _⟩, Below.refl _ _⟩
  case round =>
  obtain ⟨m, bs, Ab, cb, hm, rfl, rfl, hm2, HBb, HB⟩ := hrel
  by_cases hlt : N + m < l.length
  case pos =>
    obtain ⟨g0, of0, hA, hall⟩ := SlotD.atA (HXo.out W HB0.out) hlt
    simp only at hA
    have HBw := hi_ (below_step HBs.out HB)
    obtain ⟨d0, d1, d2, d3⟩ := hall wr HBw.out
    have hlt' : (N : Int) + (m : Int) < (l.length : Int) := by omega
    have HTk : Hid ((l.drop N).take (m + 1) = (l.drop N).take m ++ [l[N + m]]) := hi_ (by
      rw [List.take_succ_eq_append_getElem (by simp; omega)]
      simp)
    subst hA
    clear hall
    generalize l[N + m] = s at *
    obtain ⟨z, i, f, d⟩ := s
    simp only at d0 d1 d2 d3
    have HBq := hi_ HB
    clear HB
    go_wp2_with fail
    refine (HGt.out wr HBw.out ⟨z, i, f, d⟩).mono ?_
    rintro r w6 ⟨rfl, hb6⟩
    have HB6 := hi_ (below_step HBq.out hb6)
    have hown : OwnL w6 wS.heap.size 4 bcell ⟨bs, Ab, cb⟩ := HBb.out.2.2.below hb6
    have hgs6 : wS.heap.size ≤ w6.heap.size := HB6.out.size
    have hbl := HBb.out.1
    unfold OwnL at hown
    simp only [L.v, hbl] at hown
    have HLs := hi_ HBb.out.2.1
    have HbL := hi_ hbl
    clear hb6 d0 d1 d2 d3 HBb hbl
    obtain ⟨b0, hb0⟩ : ∃ b0 : Bool, b0 = decide (getC c.bare ⟨z, i, f, d⟩ ≠ 0) := ⟨_, rfl⟩
    have hbn : (getC c.bare ⟨z, i, f, d⟩ != 0) = b0 := by rw [hb0]; by_cases h9 : getC c.bare ⟨z, i, f, d⟩ = 0 <;> simp [h9]
    have HMp : Hid (List.map (fun s => decide (getC c.bare s ≠ 0)) [⟨z, i, f, d⟩] = [b0]) := hi_ (by rw [hb0]; rfl)
    generalize getC c.bare ⟨z, i, f, d⟩ = gv at *
    clear hb0
    go_wp2_with (first
      | (at_builtin; refine wpList_append_own_at _ rfl _ _ 51 rfl wS.heap.size 4 i0 _ 1 1 Tryz.underlying51 hi hz0 hz1 hz2 rfl (by decide) _ _ _ rfl (hown.alloc _) ⟨w6.heap.size, 0, none⟩ 1 1 [.bool b0] rfl rfl ?g01 ?g02 ?g03 ?g04 ?g05 ?_))
    case g01 => exact new_cells _ _ _
    case g02 => intro u hu; simp only [List.mem_cons, List.not_mem_nil, or_false] at hu; subst hu; rfl
    case g03 => unfold maxLen; omega
    case g04 => omega
    case g05 => first | omega | (simp; omega)
    intro v1 w7 hown2 hgrow _ _
    obtain ⟨A1, c1', rfl⟩ := row_slice1 hown2
    have hoa := hown.alloc (.cells #[.bool b0] 4)
    have HB7 : Hid (Below wS.heap.size wS w7) := hi_ ((below_alloc HB6.out _).grown hgrow (below_alloc HB6.out _).size fun j hj => (own_lt hoa j hj).1)
    have HO7 : Hid ((bs ++ [b0]).length = m + 1 ∧ bs ++ [b0] = ((l.drop N).take (m + 1)).map (fun s => decide (getC c.bare s ≠ 0)) ∧ OwnL w7 wS.heap.size 4 bcell ⟨bs ++ [b0], A1, c1'⟩) := hi_ ⟨by simp [HbL.out], by rw [HTk.out, List.map_append, HMp.out, ← HLs.out], by
      unfold OwnL
      simp only [L.v, List.length_append, List.length_cons, List.length_nil, HbL.out, List.flatMap_append]
      exact hown2⟩
    clear hown hown2 hgrow hoa HB6 HLs HbL HTk hgs6 hbn
    go_wp2
    go_roundw
    case rel => exact ⟨m + 1, bs ++ [b0], A1, c1', .inl (by omega), by go_num, rfl, by omega, HO7, HB7.out⟩
    case measure => simp [intOf]; omega
  have HBt : Hid (bs = bitsOutM p l c.bare) := hi_ (by
    rw [HBb.out.2.1, bitsOutM, HNn.out]
    congr 1
    rw [List.take_of_length_le]
    simp
    omega)
  have HEf := hi_ (HEs.out.below HB)
  have HBw := hi_ (below_step HBs.out HB)
  have HZf := hi_ (HZ.out.below HBw.out HZ.out.lt)
  have hlt' : ¬ (N : Int) + (m : Int) < (l.length : Int) := by omega
  have hbl := HBb.out.1
  have HOb := hi_ HBb.out.2.2
  have k0 : wr.cell? ⟨ga, 0, none⟩ = some (.slice ee.valid.A ee.valid.l.length ee.valid.c) := HEf.out.blk.cell 0
  have k1 : wr.cell? ⟨ga, 1, none⟩ = some (.slice ee.fields.A ee.fields.l.length ee.fields.c) := HEf.out.blk.cell 1
  have k2 : wr.cell? ⟨ga, 2, none⟩ = some (.slice ee.metaV.A ee.metaV.l.length ee.metaV.c) := HEf.out.blk.cell 2
  have k3 : wr.cell? ⟨ga, 3, none⟩ = some (.slice ee.payload.A ee.payload.l.length ee.payload.c) := HEf.out.blk.cell 3
  have z0 : wr.cell? ⟨w.heap.size + 1 + 1, 0, none⟩ = some (.slice none 0 0) := HZf.out.cell 0
  have z1 : wr.cell? ⟨w.heap.size + 1 + 1, 1, none⟩ = some (.slice none 0 0) := HZf.out.cell 1
  have z2 : wr.cell? ⟨w.heap.size + 1 + 1, 2, none⟩ = some (.slice none 0 0) := HZf.out.cell 2
  have z3 : wr.cell? ⟨w.heap.size + 1 + 1, 3, none⟩ = some (.slice none 0 0) := HZf.out.cell 3
  have zf : ∀ j, wr.frozen? ⟨w.heap.size + 1 + 1, j, none⟩ = false := fun j => HZf.out.frozen j
  clear HB
  go_wp2
  try rw [Exit.noGoto_ret]
  try simp only [Exit.jump]
  refine bodyPost_ret (v := .tuple #[.agg #[.slice ee.valid.A ee.valid.l.length ee.valid.c, .slice ee.fields.A ee.fields.l.length ee.fields.c, .slice ee.metaV.A ee.metaV.l.length ee.metaV.c, .slice ee.payload.A ee.payload.l.length ee.payload.c], .slice Ab m cb]) ?_ rfl ?_
  · refine results_row_tmp (fn := Tryz.f27) (p := 8) (u := 9) (ty := 56) rfl _ _ (w.heap.size + 1 + 1) 56 #[.slice ee.valid.A ee.valid.l.length ee.valid.c, .slice ee.fields.A ee.fields.l.length ee.fields.c, .slice ee.metaV.A ee.metaV.l.length ee.metaV.c, .slice ee.payload.A ee.payload.l.length ee.payload.c] _ rfl ?_ Tryz.underlying56 rfl (by kernel_rfl)
    exact (((HZf.out.set_ 0 _).set_ 1 _).set_ 2 _).set_ 3 _
  · have hsz := HSz.out
    have hle : w.heap.size ≤ w.heap.size + 1 + 1 := by omega
    have hn1 : w.heap.size + 1 + 1 < W.heap.size := by omega
    refine ⟨ee, ⟨bs, Ab, cb⟩, by simp only [hbl], HBv.out, HBt.out, ?_, ?_, ((((below_step HW.out HBw.out).setCell hle _).setCell hle _).setCell hle _).setCell hle _⟩
    · exact (HEf.out.has.four hn1 _ _ _ _).lower HW.out.size
    · have h9 : ∀ (x y z u : Value), OwnL ((((wr.setCell ⟨w.heap.size + 1 + 1, 0, none⟩ x).setCell ⟨w.heap.size + 1 + 1, 1, none⟩ y).setCell ⟨w.heap.size + 1 + 1, 2, none⟩ z).setCell ⟨w.heap.size + 1 + 1, 3, none⟩ u) wS.heap.size 4 bcell ⟨bs, Ab, cb⟩ := fun x y z u =>
        HOb.out.four (fun b e1 e2 => by have := (HOb.out.lt b e1).1; have := HBs.out.size; omega) x y z u
      exact (h9 _ _ _ _).lower (Nat.le_trans HW.out.size HBs.out.size)
end Go.Proofs.YtbfjknidinkafaaGreat
