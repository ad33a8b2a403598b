/- The walks of env.AddHeader and of the look-up of a slot in containers. No condition but that the arguments lie in memory. -/
import Derived.Test.YtbfjknidinkafaaGreatSd
import Derived.Laws.OwnMore
import Derived.Deep.AppendLies
import Derived.Lib.SliceRun
import Derived.BigFrame
namespace Go.Proofs.YtbfjknidinkafaaGreat
open Go.RowKit
set_option maxRecDepth 100000
set_option maxHeartbeats 16000000
def AptB (x y : Value) : Prop := ∀ b, x.ownBlock = some b → y.ownBlock ≠ some b
def OffB (g : Nat) (x : Value) : Prop := ∀ b, x.ownBlock = some b → b ≠ g
theorem AptB.symm {x y : Value} (h : AptB x y) : AptB y x := fun b h1 h2 => h b h2 h1
theorem AptB.new {w w1 : World} {B : Nat} {t t2 : TypeId} {α β : Type} {c1 : α → List Value} {c2 : β → List Value} {x : L α} {y : L β} (h : OwnL w B t c1 x) (h2 : OwnL w1 w.heap.size t2 c2 y) : AptB x.v y.v := fun b e1 e2 => by
  have a := (h.lt b e1).2
  have c := (h2.lt b e2).1
  omega
theorem OffB.new {w w1 : World} {ga : Nat} {t t2 : TypeId} {cs : Array Value} {α : Type} {c1 : α → List Value} {x : L α} (h : Blk w ga t cs) (h2 : OwnL w1 w.heap.size t2 c1 x) : OffB ga x.v := fun b e1 e2 => by
  have a := h.lt
  have c := (h2.lt b e1).1
  omega
theorem OffB.old {w : World} {B : Nat} {t2 : TypeId} {α : Type} {c1 : α → List Value} {x : L α} (h2 : OwnL w B t2 c1 x) : OffB w.heap.size x.v := fun b e1 e2 => by
  have c := (h2.lt b e1).2
  omega
theorem below_none {w w' : World} (h : w.grownBy w' none) : Below w.heap.size w w' := ⟨h.os, h.tape, h.output, h.size, fun i hi => h.block i hi (by simp)⟩
theorem OwnL.four {w : World} {B ga : Nat} {t : TypeId} {α : Type} {cells : α → List Value} {x : L α} (h : OwnL w B t cells x) (hf : OffB ga x.v) (a b c d : Value) :
    OwnL ((((w.setCell ⟨ga, 0, none⟩ a).setCell ⟨ga, 1, none⟩ b).setCell ⟨ga, 2, none⟩ c).setCell ⟨ga, 3, none⟩ d) B t cells x := by
  have e : x.v.ownBlock ≠ some ga := fun e => hf ga e rfl
  exact (((h.far (p := ⟨ga, 0, none⟩) a e).far (p := ⟨ga, 1, none⟩) b e).far (p := ⟨ga, 2, none⟩) c e).far (p := ⟨ga, 3, none⟩) d e
structure ClHyp (W : World) (gb : Nat) (v0 v2 : Value) (lv : List Bool) (Av : Option Addr) (cv : Nat) (lm : List Int) (Am : Option Addr) (cm : Nat) (lp : List Int) (Ap : Option Addr) (cp : Nat) : Prop where
  k0 : ∀ u, Below W.heap.size W u → u.cell? ⟨gb, 0, none⟩ = some (.slice Av lv.length cv)
  k2 : ∀ u, Below W.heap.size W u → u.cell? ⟨gb, 2, none⟩ = some (.slice Am lm.length cm)
  k3 : ∀ u, Below W.heap.size W u → u.cell? ⟨gb, 3, none⟩ = some (.slice Ap lp.length cp)
  l1 : ∀ u, Below W.heap.size W u → LOkN u 1 bcell ⟨lv, Av, cv⟩
  l2 : ∀ u, Below W.heap.size W u → LOkN u 1 ucell ⟨lm, Am, cm⟩
  l3 : ∀ u, Below W.heap.size W u → LOkN u 1 ycell ⟨lp, Ap, cp⟩
  m1 : lv.length ≤ 1000
  m2 : lm.length ≤ 1000
  m3 : lp.length ≤ 1000
def clop0 : Oper := { dst := some 6, op := Op.fieldAddr 56 (Operand.tmp 1) 0, type := 0, pos := "env.go:155", after := #[], guard := none }
def clop1 : Oper := { dst := some 7, op := Op.load 51 (Operand.tmp 6), type := 51, pos := "env.go:155", after := #[{ on := 0, ground := Ground.data }], guard := none }
def clop2 : Oper := { dst := some 8, op := Op.buildSlice 235 1 #[(0, Operand.tmp 7)], type := 235, pos := "env.go:155", after := #[{ on := 1, ground := Ground.data }], guard := none }
def clop3 : Oper := { dst := some 9, op := Op.call { callee := Callee.value (Operand.func 159), args := #[Operand.tmp 8], argTypes := #[235] }, type := 51, pos := "env.go:155", after := #[{ on := 2, ground := Ground.data }], guard := none }
def clop4 : Oper := { dst := some 10, op := Op.fieldAddr 56 (Operand.tmp 1) 2, type := 0, pos := "env.go:155", after := #[], guard := none }
def clop5 : Oper := { dst := some 11, op := Op.load 53 (Operand.tmp 10), type := 53, pos := "env.go:155", after := #[{ on := 4, ground := Ground.data }], guard := none }
def clop6 : Oper := { dst := some 12, op := Op.buildSlice 52 1 #[(0, Operand.tmp 11)], type := 52, pos := "env.go:155", after := #[{ on := 5, ground := Ground.data }], guard := none }
def clop7 : Oper := { dst := some 13, op := Op.call { callee := Callee.value (Operand.func 160), args := #[Operand.tmp 12], argTypes := #[52] }, type := 53, pos := "env.go:155", after := #[{ on := 6, ground := Ground.data }, { on := 3, ground := Ground.chain }], guard := none }
def clop8 : Oper := { dst := some 14, op := Op.fieldAddr 56 (Operand.tmp 1) 3, type := 0, pos := "env.go:155", after := #[], guard := none }
def clop9 : Oper := { dst := some 15, op := Op.load 54 (Operand.tmp 14), type := 54, pos := "env.go:155", after := #[{ on := 8, ground := Ground.data }], guard := none }
def clop10 : Oper := { dst := some 16, op := Op.buildSlice 236 1 #[(0, Operand.tmp 15)], type := 236, pos := "env.go:155", after := #[{ on := 9, ground := Ground.data }], guard := none }
def clop11 : Oper := { dst := some 17, op := Op.call { callee := Callee.value (Operand.func 161), args := #[Operand.tmp 16], argTypes := #[236] }, type := 54, pos := "env.go:155", after := #[{ on := 10, ground := Ground.data }, { on := 7, ground := Ground.chain }], guard := none }
def clop12 : Oper := { dst := some 18, op := Op.build 56 #[(0, Operand.tmp 9), (2, Operand.tmp 13), (3, Operand.tmp 17)], type := 56, pos := "env.go:155", after := #[{ on := 3, ground := Ground.data }, { on := 7, ground := Ground.data }, { on := 11, ground := Ground.data }], guard := none }
def clop13 : Oper := { dst := some 3, op := Op.alloc 56, type := 0, pos := "env.go:155", after := #[], guard := none }
def clop14 : Oper := { dst := none, op := Op.store 56 (Operand.tmp 3) (Operand.tmp 18), type := 0, pos := "env.go:155", after := #[{ on := 13, ground := Ground.data }, { on := 12, ground := Ground.data }, { on := 11, ground := Ground.chain }, { on := 0, ground := Ground.phase }, { on := 1, ground := Ground.phase }, { on := 2, ground := Ground.phase }, { on := 3, ground := Ground.phase }, { on := 4, ground := Ground.phase }, { on := 5, ground := Ground.phase }, { on := 6, ground := Ground.phase }, { on := 7, ground := Ground.phase }, { on := 8, ground := Ground.phase }, { on := 9, ground := Ground.phase }, { on := 10, ground := Ground.phase }, { on := 11, ground := Ground.phase }, { on := 12, ground := Ground.phase }, { on := 13, ground := Ground.phase }], guard := none }
def clops : Array Oper := #[clop0, clop1, clop2, clop3, clop4, clop5, clop6, clop7, clop8, clop9, clop10, clop11, clop12, clop13, clop14]
def clFin (W : World) (gb : Nat) (v0 v2 : Value) (lv : List Bool) (Av : Option Addr) (cv : Nat) (lm : List Int) (Am : Option Addr) (cm : Nat) (lp : List Int) (Ap : Option Addr) (cp : Nat) (Q : Exit → Act → World → Prop) : Prop :=
  ∀ (w : World) (q1 : Nat) (q2 : Nat) (q3 : Nat) (A1 : Option Addr) (c1 : Nat) (A2 : Option Addr) (c2 : Nat) (A3 : Option Addr) (c3 : Nat) (ga : Nat), Below W.heap.size W w → OwnL w W.heap.size 4 bcell ⟨lv, A1, c1⟩ → OwnL w W.heap.size 83 ucell ⟨lm, A2, c2⟩ → OwnL w W.heap.size 5 ycell ⟨lp, A3, c3⟩ → AptB (⟨lv, A1, c1⟩ : L Bool).v (⟨lm, A2, c2⟩ : L Int).v → AptB (⟨lv, A1, c1⟩ : L Bool).v (⟨lp, A3, c3⟩ : L Int).v → AptB (⟨lm, A2, c2⟩ : L Int).v (⟨lp, A3, c3⟩ : L Int).v →
    Blk w ga 56 #[.slice A1 lv.length c1, .slice none 0 0, .slice A2 lm.length c2, .slice A3 lp.length c3] ∧ W.heap.size ≤ ga → OffB ga (⟨lv, A1, c1⟩ : L Bool).v → OffB ga (⟨lm, A2, c2⟩ : L Int).v → OffB ga (⟨lp, A3, c3⟩ : L Int).v → Q .normal { tmps := #[v0, .pointer (some ⟨gb, 0, none⟩), v2, .pointer (some ⟨ga, 0, none⟩), undef, undef, .pointer (some ⟨gb, 0, none⟩), .slice Av lv.length cv, .slice (some ⟨q1, 0, none⟩) 1 1, .slice A1 lv.length c1, .pointer (some ⟨gb, 2, none⟩), .slice Am lm.length cm, .slice (some ⟨q2, 0, none⟩) 1 1, .slice A2 lm.length c2, .pointer (some ⟨gb, 3, none⟩), .slice Ap lp.length cp, .slice (some ⟨q3, 0, none⟩) 1 1, .slice A3 lp.length c3, .agg #[.slice A1 lv.length c1, .slice none 0 0, .slice A2 lm.length c2, .slice A3 lp.length c3], undef, undef, undef, undef, undef, undef, undef, undef, undef, undef, undef, undef, undef, undef, undef, undef, undef], defers := [] } w
section
variable {W : World} {gb : Nat} {v0 v2 : Value} {lv : List Bool} {Av : Option Addr} {cv : Nat} {lm : List Int} {Am : Option Addr} {cm : Nat} {lp : List Int} {Ap : Option Addr} {cp : Nat} {Q : Exit → Act → World → Prop}
theorem cl_end (hQ : clFin W gb v0 v2 lv Av cv lm Am cm lp Ap cp Q) (w : World) (q1 : Nat) (q2 : Nat) (q3 : Nat) (A1 : Option Addr) (c1 : Nat) (A2 : Option Addr) (c2 : Nat) (A3 : Option Addr) (c3 : Nat) (ga : Nat) (hB : Below W.heap.size W w) (o1 : OwnL w W.heap.size 4 bcell ⟨lv, A1, c1⟩) (o2 : OwnL w W.heap.size 83 ucell ⟨lm, A2, c2⟩) (o3 : OwnL w W.heap.size 5 ycell ⟨lp, A3, c3⟩) (e12 : AptB (⟨lv, A1, c1⟩ : L Bool).v (⟨lm, A2, c2⟩ : L Int).v) (e13 : AptB (⟨lv, A1, c1⟩ : L Bool).v (⟨lp, A3, c3⟩ : L Int).v) (e23 : AptB (⟨lm, A2, c2⟩ : L Int).v (⟨lp, A3, c3⟩ : L Int).v) (ha : Blk w ga 56 #[.slice none 0 0, .slice none 0 0, .slice none 0 0, .slice none 0 0] ∧ W.heap.size ≤ ga) (f1 : OffB ga (⟨lv, A1, c1⟩ : L Bool).v) (f2 : OffB ga (⟨lm, A2, c2⟩ : L Int).v) (f3 : OffB ga (⟨lp, A3, c3⟩ : L Int).v) :
    wpAnyH Tryz.prog .any clops Q (fun w' => Below W.heap.size W w') 1 #[true, true, true, true, true, true, true, true, true, true, true, true, true, true, false] { tmps := #[v0, .pointer (some ⟨gb, 0, none⟩), v2, .pointer (some ⟨ga, 0, none⟩), undef, undef, .pointer (some ⟨gb, 0, none⟩), .slice Av lv.length cv, .slice (some ⟨q1, 0, none⟩) 1 1, .slice A1 lv.length c1, .pointer (some ⟨gb, 2, none⟩), .slice Am lm.length cm, .slice (some ⟨q2, 0, none⟩) 1 1, .slice A2 lm.length c2, .pointer (some ⟨gb, 3, none⟩), .slice Ap lp.length cp, .slice (some ⟨q3, 0, none⟩) 1 1, .slice A3 lp.length c3, .agg #[.slice A1 lv.length c1, .slice none 0 0, .slice A2 lm.length c2, .slice A3 lp.length c3], undef, undef, undef, undef, undef, undef, undef, undef, undef, undef, undef, undef, undef, undef, undef, undef, undef], defers := [] } w := by
  refine wpAnyH_ready (rs := [14]) (by kernel_rfl) (by simp) ?_
  refine AllReadyH.cons (o := clop14) rfl (fun K hK => ?_) AllReadyH.nil
  have a0 : w.cell? ⟨ga, 0, none⟩ = some (.slice none 0 0) := ha.1.cell 0
  have a1 : w.cell? ⟨ga, 1, none⟩ = some (.slice none 0 0) := ha.1.cell 1
  have a2 : w.cell? ⟨ga, 2, none⟩ = some (.slice none 0 0) := ha.1.cell 2
  have a3 : w.cell? ⟨ga, 3, none⟩ = some (.slice none 0 0) := ha.1.cell 3
  have af : ∀ j, w.frozen? ⟨ga, j, none⟩ = false := fun j => ha.1.frozen j
  simp only [clop14]
  go_simp
  have hBs : Below W.heap.size W ((((w.setCell ⟨ga, 0, none⟩ (.slice A1 lv.length c1)).setCell ⟨ga, 1, none⟩ (.slice none 0 0)).setCell ⟨ga, 2, none⟩ (.slice A2 lm.length c2)).setCell ⟨ga, 3, none⟩ (.slice A3 lp.length c3)) := (((hB.setCell (by exact ha.2) _).setCell (by exact ha.2) _).setCell (by exact ha.2) _).setCell (by exact ha.2) _
  refine hK.out _ _ hBs (fun _ => ?_)
  clear hK K
  try simp only [sA, sZ, sS]
  refine wpAnyH_done (by kernel_rfl) ?_ _
  exact hQ _ q1 q2 q3 A1 c1 A2 c2 A3 c3 ga hBs (o1.four f1 _ _ _ _) (o2.four f2 _ _ _ _) (o3.four f3 _ _ _ _) e12 e13 e23 ⟨(((ha.1.set_ 0 _).set_ 1 _).set_ 2 _).set_ 3 _, ha.2⟩ f1 f2 f3
theorem cl_1111111 (hQ : clFin W gb v0 v2 lv Av cv lm Am cm lp Ap cp Q) (hP : ∀ c (d : Option Tmp) v a w, Q (.panic c) (a.put d v) w → Q (.panic c) a w) (w : World) (q1 : Nat) (q2 : Nat) (q3 : Nat) (A1 : Option Addr) (c1 : Nat) (A2 : Option Addr) (c2 : Nat) (A3 : Option Addr) (c3 : Nat) (ga : Nat) (hB : Below W.heap.size W w) (o1 : OwnL w W.heap.size 4 bcell ⟨lv, A1, c1⟩) (o2 : OwnL w W.heap.size 83 ucell ⟨lm, A2, c2⟩) (o3 : OwnL w W.heap.size 5 ycell ⟨lp, A3, c3⟩) (e12 : AptB (⟨lv, A1, c1⟩ : L Bool).v (⟨lm, A2, c2⟩ : L Int).v) (e13 : AptB (⟨lv, A1, c1⟩ : L Bool).v (⟨lp, A3, c3⟩ : L Int).v) (e23 : AptB (⟨lm, A2, c2⟩ : L Int).v (⟨lp, A3, c3⟩ : L Int).v) (ha : Blk w ga 56 #[.slice none 0 0, .slice none 0 0, .slice none 0 0, .slice none 0 0] ∧ W.heap.size ≤ ga) (f1 : OffB ga (⟨lv, A1, c1⟩ : L Bool).v) (f2 : OffB ga (⟨lm, A2, c2⟩ : L Int).v) (f3 : OffB ga (⟨lp, A3, c3⟩ : L Int).v) :
    wpAnyH Tryz.prog .any clops Q (fun w' => Below W.heap.size W w') 2 #[true, true, true, true, true, true, true, true, true, true, true, true, false, true, false] { tmps := #[v0, .pointer (some ⟨gb, 0, none⟩), v2, .pointer (some ⟨ga, 0, none⟩), undef, undef, .pointer (some ⟨gb, 0, none⟩), .slice Av lv.length cv, .slice (some ⟨q1, 0, none⟩) 1 1, .slice A1 lv.length c1, .pointer (some ⟨gb, 2, none⟩), .slice Am lm.length cm, .slice (some ⟨q2, 0, none⟩) 1 1, .slice A2 lm.length c2, .pointer (some ⟨gb, 3, none⟩), .slice Ap lp.length cp, .slice (some ⟨q3, 0, none⟩) 1 1, .slice A3 lp.length c3, undef, undef, undef, undef, undef, undef, undef, undef, undef, undef, undef, undef, undef, undef, undef, undef, undef, undef], defers := [] } w := by
  refine wpAnyH_take (i := 12) (oi := clop12) (v := ?t1v) rfl (by kernel_rfl) (by kernel_rfl) (by kernel_rfl) (fun c a w h => hP c _ _ a w h) (Or.inl ⟨by rfl, ?t1y⟩) (by assumption) ?t1r
  case t1y => (intro w hSw; (try dsimp only at hSw); simp only [clop12]; go_simp; try (with_reducible rfl))
  try simp only [Act.put, clop12, sA, sZ, sS]
  exact cl_end hQ w q1 q2 q3 A1 c1 A2 c2 A3 c3 ga hB o1 o2 o3 e12 e13 e23 ha f1 f2 f3
theorem cl_1111110 (hQ : clFin W gb v0 v2 lv Av cv lm Am cm lp Ap cp Q) (hP : ∀ c (d : Option Tmp) v a w, Q (.panic c) (a.put d v) w → Q (.panic c) a w) (w : World) (q1 : Nat) (q2 : Nat) (q3 : Nat) (A1 : Option Addr) (c1 : Nat) (A2 : Option Addr) (c2 : Nat) (A3 : Option Addr) (c3 : Nat) (hB : Below W.heap.size W w) (o1 : OwnL w W.heap.size 4 bcell ⟨lv, A1, c1⟩) (o2 : OwnL w W.heap.size 83 ucell ⟨lm, A2, c2⟩) (o3 : OwnL w W.heap.size 5 ycell ⟨lp, A3, c3⟩) (e12 : AptB (⟨lv, A1, c1⟩ : L Bool).v (⟨lm, A2, c2⟩ : L Int).v) (e13 : AptB (⟨lv, A1, c1⟩ : L Bool).v (⟨lp, A3, c3⟩ : L Int).v) (e23 : AptB (⟨lm, A2, c2⟩ : L Int).v (⟨lp, A3, c3⟩ : L Int).v) :
    wpAnyH Tryz.prog .any clops Q (fun w' => Below W.heap.size W w') 3 #[true, true, true, true, true, true, true, true, true, true, true, true, false, false, false] { tmps := #[v0, .pointer (some ⟨gb, 0, none⟩), v2, undef, undef, undef, .pointer (some ⟨gb, 0, none⟩), .slice Av lv.length cv, .slice (some ⟨q1, 0, none⟩) 1 1, .slice A1 lv.length c1, .pointer (some ⟨gb, 2, none⟩), .slice Am lm.length cm, .slice (some ⟨q2, 0, none⟩) 1 1, .slice A2 lm.length c2, .pointer (some ⟨gb, 3, none⟩), .slice Ap lp.length cp, .slice (some ⟨q3, 0, none⟩) 1 1, .slice A3 lp.length c3, undef, undef, undef, undef, undef, undef, undef, undef, undef, undef, undef, undef, undef, undef, undef, undef, undef, undef], defers := [] } w := by
  refine wpAnyH_take (i := 12) (oi := clop12) (v := ?t2v) rfl (by kernel_rfl) (by kernel_rfl) (by kernel_rfl) (fun c a w h => hP c _ _ a w h) (Or.inl ⟨by rfl, ?t2y⟩) (by assumption) ?t2r
  case t2y => (intro w hSw; (try dsimp only at hSw); simp only [clop12]; go_simp; try (with_reducible rfl))
  try simp only [Act.put, clop12, sA, sZ, sS]
  refine wpAnyH_ready (rs := [13]) (by kernel_rfl) (by simp) ?_
  refine AllReadyH.cons (o := clop13) rfl (fun K hK => ?_) AllReadyH.nil
  · simp only [clop13]
    go_simp
    have hb1 := below1 w (.cells #[.slice none 0 0, .slice none 0 0, .slice none 0 0, .slice none 0 0] 56)
    have hB1 := below_step hB hb1
    refine hK.out _ _ hB1 (fun _ => ?_)
    clear hK K
    try simp only [sA, sZ, sS]
    exact cl_end hQ _ q1 q2 q3 A1 c1 A2 c2 A3 c3 w.heap.size hB1 (o1.below hb1) (o2.below hb1) (o3.below hb1) e12 e13 e23 ⟨Blk.new _ _ _, hB.size⟩ (OffB.old o1) (OffB.old o2) (OffB.old o3)
theorem cl_1111101 (hQ : clFin W gb v0 v2 lv Av cv lm Am cm lp Ap cp Q) (hP : ∀ c (d : Option Tmp) v a w, Q (.panic c) (a.put d v) w → Q (.panic c) a w) (HC : ClHyp W gb v0 v2 lv Av cv lm Am cm lp Ap cp) (w : World) (q1 : Nat) (q2 : Nat) (q3 : Nat) (A1 : Option Addr) (c1 : Nat) (A2 : Option Addr) (c2 : Nat) (ga : Nat) (hB : Below W.heap.size W w) (k3 : w.cell? ⟨q3, 0, none⟩ = some (.slice Ap lp.length cp)) (o1 : OwnL w W.heap.size 4 bcell ⟨lv, A1, c1⟩) (o2 : OwnL w W.heap.size 83 ucell ⟨lm, A2, c2⟩) (e12 : AptB (⟨lv, A1, c1⟩ : L Bool).v (⟨lm, A2, c2⟩ : L Int).v) (ha : Blk w ga 56 #[.slice none 0 0, .slice none 0 0, .slice none 0 0, .slice none 0 0] ∧ W.heap.size ≤ ga) (f1 : OffB ga (⟨lv, A1, c1⟩ : L Bool).v) (f2 : OffB ga (⟨lm, A2, c2⟩ : L Int).v) :
    wpAnyH Tryz.prog .any clops Q (fun w' => Below W.heap.size W w') 3 #[true, true, true, true, true, true, true, true, true, true, true, false, false, true, false] { tmps := #[v0, .pointer (some ⟨gb, 0, none⟩), v2, .pointer (some ⟨ga, 0, none⟩), undef, undef, .pointer (some ⟨gb, 0, none⟩), .slice Av lv.length cv, .slice (some ⟨q1, 0, none⟩) 1 1, .slice A1 lv.length c1, .pointer (some ⟨gb, 2, none⟩), .slice Am lm.length cm, .slice (some ⟨q2, 0, none⟩) 1 1, .slice A2 lm.length c2, .pointer (some ⟨gb, 3, none⟩), .slice Ap lp.length cp, .slice (some ⟨q3, 0, none⟩) 1 1, undef, undef, undef, undef, undef, undef, undef, undef, undef, undef, undef, undef, undef, undef, undef, undef, undef, undef, undef], defers := [] } w := by
  refine wpAnyH_ready (rs := [11]) (by kernel_rfl) (by simp) ?_
  refine AllReadyH.cons (o := clop11) rfl (fun K hK => ?_) AllReadyH.nil
  · simp only [clop11]
    go_simp
    go_at_call 161
    refine (join_u8 ⟨lp, Ap, cp⟩ q3 1 w k3 (HC.l3 w hB) HC.m3).mono ?_
    rintro e w1 ⟨An, cn, rfl, hown, hb1⟩
    have hB1 := below_step hB hb1
    refine hK.out _ _ hB1 (fun _ => ?_)
    clear hK K
    try simp only [sA, sZ, sS]
    exact cl_1111111 hQ hP w1 q1 q2 q3 A1 c1 A2 c2 An cn ga hB1 (o1.below hb1) (o2.below hb1) (hown.lower hB.size) e12 (AptB.new o1 hown) (AptB.new o2 hown) ⟨ha.1.below hb1 ha.1.lt, ha.2⟩ f1 f2 (OffB.new ha.1 hown)
theorem cl_1111100 (hQ : clFin W gb v0 v2 lv Av cv lm Am cm lp Ap cp Q) (hP : ∀ c (d : Option Tmp) v a w, Q (.panic c) (a.put d v) w → Q (.panic c) a w) (HC : ClHyp W gb v0 v2 lv Av cv lm Am cm lp Ap cp) (w : World) (q1 : Nat) (q2 : Nat) (q3 : Nat) (A1 : Option Addr) (c1 : Nat) (A2 : Option Addr) (c2 : Nat) (hB : Below W.heap.size W w) (k3 : w.cell? ⟨q3, 0, none⟩ = some (.slice Ap lp.length cp)) (o1 : OwnL w W.heap.size 4 bcell ⟨lv, A1, c1⟩) (o2 : OwnL w W.heap.size 83 ucell ⟨lm, A2, c2⟩) (e12 : AptB (⟨lv, A1, c1⟩ : L Bool).v (⟨lm, A2, c2⟩ : L Int).v) :
    wpAnyH Tryz.prog .any clops Q (fun w' => Below W.heap.size W w') 4 #[true, true, true, true, true, true, true, true, true, true, true, false, false, false, false] { tmps := #[v0, .pointer (some ⟨gb, 0, none⟩), v2, undef, undef, undef, .pointer (some ⟨gb, 0, none⟩), .slice Av lv.length cv, .slice (some ⟨q1, 0, none⟩) 1 1, .slice A1 lv.length c1, .pointer (some ⟨gb, 2, none⟩), .slice Am lm.length cm, .slice (some ⟨q2, 0, none⟩) 1 1, .slice A2 lm.length c2, .pointer (some ⟨gb, 3, none⟩), .slice Ap lp.length cp, .slice (some ⟨q3, 0, none⟩) 1 1, undef, undef, undef, undef, undef, undef, undef, undef, undef, undef, undef, undef, undef, undef, undef, undef, undef, undef, undef], defers := [] } w := by
  refine wpAnyH_ready (rs := [11, 13]) (by kernel_rfl) (by simp) ?_
  refine AllReadyH.cons (o := clop11) rfl (fun K hK => ?_) (AllReadyH.cons (o := clop13) rfl (fun K hK => ?_) AllReadyH.nil)
  · simp only [clop11]
    go_simp
    go_at_call 161
    refine (join_u8 ⟨lp, Ap, cp⟩ q3 1 w k3 (HC.l3 w hB) HC.m3).mono ?_
    rintro e w1 ⟨An, cn, rfl, hown, hb1⟩
    have hB1 := below_step hB hb1
    refine hK.out _ _ hB1 (fun _ => ?_)
    clear hK K
    try simp only [sA, sZ, sS]
    exact cl_1111110 hQ hP w1 q1 q2 q3 A1 c1 A2 c2 An cn hB1 (o1.below hb1) (o2.below hb1) (hown.lower hB.size) e12 (AptB.new o1 hown) (AptB.new o2 hown)
  · simp only [clop13]
    go_simp
    have hb1 := below1 w (.cells #[.slice none 0 0, .slice none 0 0, .slice none 0 0, .slice none 0 0] 56)
    have hB1 := below_step hB hb1
    refine hK.out _ _ hB1 (fun _ => ?_)
    clear hK K
    try simp only [sA, sZ, sS]
    exact cl_1111101 hQ hP HC _ q1 q2 q3 A1 c1 A2 c2 w.heap.size hB1 (below_cell hb1 k3) (o1.below hb1) (o2.below hb1) e12 ⟨Blk.new _ _ _, hB.size⟩ (OffB.old o1) (OffB.old o2)
theorem cl_1111001 (hQ : clFin W gb v0 v2 lv Av cv lm Am cm lp Ap cp Q) (hP : ∀ c (d : Option Tmp) v a w, Q (.panic c) (a.put d v) w → Q (.panic c) a w) (HC : ClHyp W gb v0 v2 lv Av cv lm Am cm lp Ap cp) (w : World) (q1 : Nat) (q2 : Nat) (A1 : Option Addr) (c1 : Nat) (A2 : Option Addr) (c2 : Nat) (ga : Nat) (hB : Below W.heap.size W w) (o1 : OwnL w W.heap.size 4 bcell ⟨lv, A1, c1⟩) (o2 : OwnL w W.heap.size 83 ucell ⟨lm, A2, c2⟩) (e12 : AptB (⟨lv, A1, c1⟩ : L Bool).v (⟨lm, A2, c2⟩ : L Int).v) (ha : Blk w ga 56 #[.slice none 0 0, .slice none 0 0, .slice none 0 0, .slice none 0 0] ∧ W.heap.size ≤ ga) (f1 : OffB ga (⟨lv, A1, c1⟩ : L Bool).v) (f2 : OffB ga (⟨lm, A2, c2⟩ : L Int).v) :
    wpAnyH Tryz.prog .any clops Q (fun w' => Below W.heap.size W w') 4 #[true, true, true, true, true, true, true, true, true, true, false, false, false, true, false] { tmps := #[v0, .pointer (some ⟨gb, 0, none⟩), v2, .pointer (some ⟨ga, 0, none⟩), undef, undef, .pointer (some ⟨gb, 0, none⟩), .slice Av lv.length cv, .slice (some ⟨q1, 0, none⟩) 1 1, .slice A1 lv.length c1, .pointer (some ⟨gb, 2, none⟩), .slice Am lm.length cm, .slice (some ⟨q2, 0, none⟩) 1 1, .slice A2 lm.length c2, .pointer (some ⟨gb, 3, none⟩), .slice Ap lp.length cp, undef, undef, undef, undef, undef, undef, undef, undef, undef, undef, undef, undef, undef, undef, undef, undef, undef, undef, undef, undef], defers := [] } w := by
  refine wpAnyH_ready (rs := [10]) (by kernel_rfl) (by simp) ?_
  refine AllReadyH.cons (o := clop10) rfl (fun K hK => ?_) AllReadyH.nil
  · simp only [clop10]
    go_simp
    have hb1 := below1 w (.cells #[.slice Ap lp.length cp] 54)
    have kn := (Blk.new w 54 #[.slice Ap lp.length cp]).cell 0
    have hB1 := below_step hB hb1
    refine hK.out _ _ hB1 (fun _ => ?_)
    clear hK K
    try simp only [sA, sZ, sS]
    exact cl_1111101 hQ hP HC _ q1 q2 w.heap.size A1 c1 A2 c2 ga hB1 kn (o1.below hb1) (o2.below hb1) e12 ⟨ha.1.below hb1 ha.1.lt, ha.2⟩ f1 f2
theorem cl_1110101 (hQ : clFin W gb v0 v2 lv Av cv lm Am cm lp Ap cp Q) (hP : ∀ c (d : Option Tmp) v a w, Q (.panic c) (a.put d v) w → Q (.panic c) a w) (HC : ClHyp W gb v0 v2 lv Av cv lm Am cm lp Ap cp) (w : World) (q1 : Nat) (q2 : Nat) (q3 : Nat) (A1 : Option Addr) (c1 : Nat) (ga : Nat) (hB : Below W.heap.size W w) (k2 : w.cell? ⟨q2, 0, none⟩ = some (.slice Am lm.length cm)) (k3 : w.cell? ⟨q3, 0, none⟩ = some (.slice Ap lp.length cp)) (o1 : OwnL w W.heap.size 4 bcell ⟨lv, A1, c1⟩) (ha : Blk w ga 56 #[.slice none 0 0, .slice none 0 0, .slice none 0 0, .slice none 0 0] ∧ W.heap.size ≤ ga) (f1 : OffB ga (⟨lv, A1, c1⟩ : L Bool).v) :
    wpAnyH Tryz.prog .any clops Q (fun w' => Below W.heap.size W w') 4 #[true, true, true, true, true, true, true, false, true, true, true, false, false, true, false] { tmps := #[v0, .pointer (some ⟨gb, 0, none⟩), v2, .pointer (some ⟨ga, 0, none⟩), undef, undef, .pointer (some ⟨gb, 0, none⟩), .slice Av lv.length cv, .slice (some ⟨q1, 0, none⟩) 1 1, .slice A1 lv.length c1, .pointer (some ⟨gb, 2, none⟩), .slice Am lm.length cm, .slice (some ⟨q2, 0, none⟩) 1 1, undef, .pointer (some ⟨gb, 3, none⟩), .slice Ap lp.length cp, .slice (some ⟨q3, 0, none⟩) 1 1, undef, undef, undef, undef, undef, undef, undef, undef, undef, undef, undef, undef, undef, undef, undef, undef, undef, undef, undef], defers := [] } w := by
  refine wpAnyH_ready (rs := [7]) (by kernel_rfl) (by simp) ?_
  refine AllReadyH.cons (o := clop7) rfl (fun K hK => ?_) AllReadyH.nil
  · simp only [clop7]
    go_simp
    go_at_call 160
    refine (join_u32 ⟨lm, Am, cm⟩ q2 1 w k2 (HC.l2 w hB) HC.m2).mono ?_
    rintro e w1 ⟨An, cn, rfl, hown, hb1⟩
    have hB1 := below_step hB hb1
    refine hK.out _ _ hB1 (fun _ => ?_)
    clear hK K
    try simp only [sA, sZ, sS]
    exact cl_1111101 hQ hP HC w1 q1 q2 q3 A1 c1 An cn ga hB1 (below_cell hb1 k3) (o1.below hb1) (hown.lower hB.size) (AptB.new o1 hown) ⟨ha.1.below hb1 ha.1.lt, ha.2⟩ f1 (OffB.new ha.1 hown)
theorem cl_1111000 (hQ : clFin W gb v0 v2 lv Av cv lm Am cm lp Ap cp Q) (hP : ∀ c (d : Option Tmp) v a w, Q (.panic c) (a.put d v) w → Q (.panic c) a w) (HC : ClHyp W gb v0 v2 lv Av cv lm Am cm lp Ap cp) (w : World) (q1 : Nat) (q2 : Nat) (A1 : Option Addr) (c1 : Nat) (A2 : Option Addr) (c2 : Nat) (hB : Below W.heap.size W w) (o1 : OwnL w W.heap.size 4 bcell ⟨lv, A1, c1⟩) (o2 : OwnL w W.heap.size 83 ucell ⟨lm, A2, c2⟩) (e12 : AptB (⟨lv, A1, c1⟩ : L Bool).v (⟨lm, A2, c2⟩ : L Int).v) :
    wpAnyH Tryz.prog .any clops Q (fun w' => Below W.heap.size W w') 5 #[true, true, true, true, true, true, true, true, true, true, false, false, false, false, false] { tmps := #[v0, .pointer (some ⟨gb, 0, none⟩), v2, undef, undef, undef, .pointer (some ⟨gb, 0, none⟩), .slice Av lv.length cv, .slice (some ⟨q1, 0, none⟩) 1 1, .slice A1 lv.length c1, .pointer (some ⟨gb, 2, none⟩), .slice Am lm.length cm, .slice (some ⟨q2, 0, none⟩) 1 1, .slice A2 lm.length c2, .pointer (some ⟨gb, 3, none⟩), .slice Ap lp.length cp, undef, undef, undef, undef, undef, undef, undef, undef, undef, undef, undef, undef, undef, undef, undef, undef, undef, undef, undef, undef], defers := [] } w := by
  refine wpAnyH_ready (rs := [10, 13]) (by kernel_rfl) (by simp) ?_
  refine AllReadyH.cons (o := clop10) rfl (fun K hK => ?_) (AllReadyH.cons (o := clop13) rfl (fun K hK => ?_) AllReadyH.nil)
  · simp only [clop10]
    go_simp
    have hb1 := below1 w (.cells #[.slice Ap lp.length cp] 54)
    have kn := (Blk.new w 54 #[.slice Ap lp.length cp]).cell 0
    have hB1 := below_step hB hb1
    refine hK.out _ _ hB1 (fun _ => ?_)
    clear hK K
    try simp only [sA, sZ, sS]
    exact cl_1111100 hQ hP HC _ q1 q2 w.heap.size A1 c1 A2 c2 hB1 kn (o1.below hb1) (o2.below hb1) e12
  · simp only [clop13]
    go_simp
    have hb1 := below1 w (.cells #[.slice none 0 0, .slice none 0 0, .slice none 0 0, .slice none 0 0] 56)
    have hB1 := below_step hB hb1
    refine hK.out _ _ hB1 (fun _ => ?_)
    clear hK K
    try simp only [sA, sZ, sS]
    exact cl_1111001 hQ hP HC _ q1 q2 A1 c1 A2 c2 w.heap.size hB1 (o1.below hb1) (o2.below hb1) e12 ⟨Blk.new _ _ _, hB.size⟩ (OffB.old o1) (OffB.old o2)
theorem cl_1110100 (hQ : clFin W gb v0 v2 lv Av cv lm Am cm lp Ap cp Q) (hP : ∀ c (d : Option Tmp) v a w, Q (.panic c) (a.put d v) w → Q (.panic c) a w) (HC : ClHyp W gb v0 v2 lv Av cv lm Am cm lp Ap cp) (w : World) (q1 : Nat) (q2 : Nat) (q3 : Nat) (A1 : Option Addr) (c1 : Nat) (hB : Below W.heap.size W w) (k2 : w.cell? ⟨q2, 0, none⟩ = some (.slice Am lm.length cm)) (k3 : w.cell? ⟨q3, 0, none⟩ = some (.slice Ap lp.length cp)) (o1 : OwnL w W.heap.size 4 bcell ⟨lv, A1, c1⟩) :
    wpAnyH Tryz.prog .any clops Q (fun w' => Below W.heap.size W w') 5 #[true, true, true, true, true, true, true, false, true, true, true, false, false, false, false] { tmps := #[v0, .pointer (some ⟨gb, 0, none⟩), v2, undef, undef, undef, .pointer (some ⟨gb, 0, none⟩), .slice Av lv.length cv, .slice (some ⟨q1, 0, none⟩) 1 1, .slice A1 lv.length c1, .pointer (some ⟨gb, 2, none⟩), .slice Am lm.length cm, .slice (some ⟨q2, 0, none⟩) 1 1, undef, .pointer (some ⟨gb, 3, none⟩), .slice Ap lp.length cp, .slice (some ⟨q3, 0, none⟩) 1 1, undef, undef, undef, undef, undef, undef, undef, undef, undef, undef, undef, undef, undef, undef, undef, undef, undef, undef, undef], defers := [] } w := by
  refine wpAnyH_ready (rs := [7, 13]) (by kernel_rfl) (by simp) ?_
  refine AllReadyH.cons (o := clop7) rfl (fun K hK => ?_) (AllReadyH.cons (o := clop13) rfl (fun K hK => ?_) AllReadyH.nil)
  · simp only [clop7]
    go_simp
    go_at_call 160
    refine (join_u32 ⟨lm, Am, cm⟩ q2 1 w k2 (HC.l2 w hB) HC.m2).mono ?_
    rintro e w1 ⟨An, cn, rfl, hown, hb1⟩
    have hB1 := below_step hB hb1
    refine hK.out _ _ hB1 (fun _ => ?_)
    clear hK K
    try simp only [sA, sZ, sS]
    exact cl_1111100 hQ hP HC w1 q1 q2 q3 A1 c1 An cn hB1 (below_cell hb1 k3) (o1.below hb1) (hown.lower hB.size) (AptB.new o1 hown)
  · simp only [clop13]
    go_simp
    have hb1 := below1 w (.cells #[.slice none 0 0, .slice none 0 0, .slice none 0 0, .slice none 0 0] 56)
    have hB1 := below_step hB hb1
    refine hK.out _ _ hB1 (fun _ => ?_)
    clear hK K
    try simp only [sA, sZ, sS]
    exact cl_1110101 hQ hP HC _ q1 q2 q3 A1 c1 w.heap.size hB1 (below_cell hb1 k2) (below_cell hb1 k3) (o1.below hb1) ⟨Blk.new _ _ _, hB.size⟩ (OffB.old o1)
theorem cl_1110001 (hQ : clFin W gb v0 v2 lv Av cv lm Am cm lp Ap cp Q) (hP : ∀ c (d : Option Tmp) v a w, Q (.panic c) (a.put d v) w → Q (.panic c) a w) (HC : ClHyp W gb v0 v2 lv Av cv lm Am cm lp Ap cp) (w : World) (q1 : Nat) (q2 : Nat) (A1 : Option Addr) (c1 : Nat) (ga : Nat) (hB : Below W.heap.size W w) (k2 : w.cell? ⟨q2, 0, none⟩ = some (.slice Am lm.length cm)) (o1 : OwnL w W.heap.size 4 bcell ⟨lv, A1, c1⟩) (ha : Blk w ga 56 #[.slice none 0 0, .slice none 0 0, .slice none 0 0, .slice none 0 0] ∧ W.heap.size ≤ ga) (f1 : OffB ga (⟨lv, A1, c1⟩ : L Bool).v) :
    wpAnyH Tryz.prog .any clops Q (fun w' => Below W.heap.size W w') 5 #[true, true, true, true, true, true, true, false, true, true, false, false, false, true, false] { tmps := #[v0, .pointer (some ⟨gb, 0, none⟩), v2, .pointer (some ⟨ga, 0, none⟩), undef, undef, .pointer (some ⟨gb, 0, none⟩), .slice Av lv.length cv, .slice (some ⟨q1, 0, none⟩) 1 1, .slice A1 lv.length c1, .pointer (some ⟨gb, 2, none⟩), .slice Am lm.length cm, .slice (some ⟨q2, 0, none⟩) 1 1, undef, .pointer (some ⟨gb, 3, none⟩), .slice Ap lp.length cp, undef, undef, undef, undef, undef, undef, undef, undef, undef, undef, undef, undef, undef, undef, undef, undef, undef, undef, undef, undef], defers := [] } w := by
  refine wpAnyH_ready (rs := [7, 10]) (by kernel_rfl) (by simp) ?_
  refine AllReadyH.cons (o := clop7) rfl (fun K hK => ?_) (AllReadyH.cons (o := clop10) rfl (fun K hK => ?_) AllReadyH.nil)
  · simp only [clop7]
    go_simp
    go_at_call 160
    refine (join_u32 ⟨lm, Am, cm⟩ q2 1 w k2 (HC.l2 w hB) HC.m2).mono ?_
    rintro e w1 ⟨An, cn, rfl, hown, hb1⟩
    have hB1 := below_step hB hb1
    refine hK.out _ _ hB1 (fun _ => ?_)
    clear hK K
    try simp only [sA, sZ, sS]
    exact cl_1111001 hQ hP HC w1 q1 q2 A1 c1 An cn ga hB1 (o1.below hb1) (hown.lower hB.size) (AptB.new o1 hown) ⟨ha.1.below hb1 ha.1.lt, ha.2⟩ f1 (OffB.new ha.1 hown)
  · simp only [clop10]
    go_simp
    have hb1 := below1 w (.cells #[.slice Ap lp.length cp] 54)
    have kn := (Blk.new w 54 #[.slice Ap lp.length cp]).cell 0
    have hB1 := below_step hB hb1
    refine hK.out _ _ hB1 (fun _ => ?_)
    clear hK K
    try simp only [sA, sZ, sS]
    exact cl_1110101 hQ hP HC _ q1 q2 w.heap.size A1 c1 ga hB1 (below_cell hb1 k2) kn (o1.below hb1) ⟨ha.1.below hb1 ha.1.lt, ha.2⟩ f1
theorem cl_1100101 (hQ : clFin W gb v0 v2 lv Av cv lm Am cm lp Ap cp Q) (hP : ∀ c (d : Option Tmp) v a w, Q (.panic c) (a.put d v) w → Q (.panic c) a w) (HC : ClHyp W gb v0 v2 lv Av cv lm Am cm lp Ap cp) (w : World) (q1 : Nat) (q3 : Nat) (A1 : Option Addr) (c1 : Nat) (ga : Nat) (hB : Below W.heap.size W w) (k3 : w.cell? ⟨q3, 0, none⟩ = some (.slice Ap lp.length cp)) (o1 : OwnL w W.heap.size 4 bcell ⟨lv, A1, c1⟩) (ha : Blk w ga 56 #[.slice none 0 0, .slice none 0 0, .slice none 0 0, .slice none 0 0] ∧ W.heap.size ≤ ga) (f1 : OffB ga (⟨lv, A1, c1⟩ : L Bool).v) :
    wpAnyH Tryz.prog .any clops Q (fun w' => Below W.heap.size W w') 5 #[true, true, true, true, true, true, false, false, true, true, true, false, false, true, false] { tmps := #[v0, .pointer (some ⟨gb, 0, none⟩), v2, .pointer (some ⟨ga, 0, none⟩), undef, undef, .pointer (some ⟨gb, 0, none⟩), .slice Av lv.length cv, .slice (some ⟨q1, 0, none⟩) 1 1, .slice A1 lv.length c1, .pointer (some ⟨gb, 2, none⟩), .slice Am lm.length cm, undef, undef, .pointer (some ⟨gb, 3, none⟩), .slice Ap lp.length cp, .slice (some ⟨q3, 0, none⟩) 1 1, undef, undef, undef, undef, undef, undef, undef, undef, undef, undef, undef, undef, undef, undef, undef, undef, undef, undef, undef], defers := [] } w := by
  refine wpAnyH_ready (rs := [6]) (by kernel_rfl) (by simp) ?_
  refine AllReadyH.cons (o := clop6) rfl (fun K hK => ?_) AllReadyH.nil
  · simp only [clop6]
    go_simp
    have hb1 := below1 w (.cells #[.slice Am lm.length cm] 53)
    have kn := (Blk.new w 53 #[.slice Am lm.length cm]).cell 0
    have hB1 := below_step hB hb1
    refine hK.out _ _ hB1 (fun _ => ?_)
    clear hK K
    try simp only [sA, sZ, sS]
    exact cl_1110101 hQ hP HC _ q1 w.heap.size q3 A1 c1 ga hB1 kn (below_cell hb1 k3) (o1.below hb1) ⟨ha.1.below hb1 ha.1.lt, ha.2⟩ f1
theorem cl_1010101 (hQ : clFin W gb v0 v2 lv Av cv lm Am cm lp Ap cp Q) (hP : ∀ c (d : Option Tmp) v a w, Q (.panic c) (a.put d v) w → Q (.panic c) a w) (HC : ClHyp W gb v0 v2 lv Av cv lm Am cm lp Ap cp) (w : World) (q1 : Nat) (q2 : Nat) (q3 : Nat) (ga : Nat) (hB : Below W.heap.size W w) (k1 : w.cell? ⟨q1, 0, none⟩ = some (.slice Av lv.length cv)) (k2 : w.cell? ⟨q2, 0, none⟩ = some (.slice Am lm.length cm)) (k3 : w.cell? ⟨q3, 0, none⟩ = some (.slice Ap lp.length cp)) (ha : Blk w ga 56 #[.slice none 0 0, .slice none 0 0, .slice none 0 0, .slice none 0 0] ∧ W.heap.size ≤ ga) :
    wpAnyH Tryz.prog .any clops Q (fun w' => Below W.heap.size W w') 5 #[true, true, true, false, true, true, true, false, true, true, true, false, false, true, false] { tmps := #[v0, .pointer (some ⟨gb, 0, none⟩), v2, .pointer (some ⟨ga, 0, none⟩), undef, undef, .pointer (some ⟨gb, 0, none⟩), .slice Av lv.length cv, .slice (some ⟨q1, 0, none⟩) 1 1, undef, .pointer (some ⟨gb, 2, none⟩), .slice Am lm.length cm, .slice (some ⟨q2, 0, none⟩) 1 1, undef, .pointer (some ⟨gb, 3, none⟩), .slice Ap lp.length cp, .slice (some ⟨q3, 0, none⟩) 1 1, undef, undef, undef, undef, undef, undef, undef, undef, undef, undef, undef, undef, undef, undef, undef, undef, undef, undef, undef], defers := [] } w := by
  refine wpAnyH_ready (rs := [3]) (by kernel_rfl) (by simp) ?_
  refine AllReadyH.cons (o := clop3) rfl (fun K hK => ?_) AllReadyH.nil
  · simp only [clop3]
    go_simp
    go_at_call 159
    refine (join_bool ⟨lv, Av, cv⟩ q1 1 w k1 (HC.l1 w hB) HC.m1).mono ?_
    rintro e w1 ⟨An, cn, rfl, hown, hb1⟩
    have hB1 := below_step hB hb1
    refine hK.out _ _ hB1 (fun _ => ?_)
    clear hK K
    try simp only [sA, sZ, sS]
    exact cl_1110101 hQ hP HC w1 q1 q2 q3 An cn ga hB1 (below_cell hb1 k2) (below_cell hb1 k3) (hown.lower hB.size) ⟨ha.1.below hb1 ha.1.lt, ha.2⟩ (OffB.new ha.1 hown)
theorem cl_1110000 (hQ : clFin W gb v0 v2 lv Av cv lm Am cm lp Ap cp Q) (hP : ∀ c (d : Option Tmp) v a w, Q (.panic c) (a.put d v) w → Q (.panic c) a w) (HC : ClHyp W gb v0 v2 lv Av cv lm Am cm lp Ap cp) (w : World) (q1 : Nat) (q2 : Nat) (A1 : Option Addr) (c1 : Nat) (hB : Below W.heap.size W w) (k2 : w.cell? ⟨q2, 0, none⟩ = some (.slice Am lm.length cm)) (o1 : OwnL w W.heap.size 4 bcell ⟨lv, A1, c1⟩) :
    wpAnyH Tryz.prog .any clops Q (fun w' => Below W.heap.size W w') 6 #[true, true, true, true, true, true, true, false, true, true, false, false, false, false, false] { tmps := #[v0, .pointer (some ⟨gb, 0, none⟩), v2, undef, undef, undef, .pointer (some ⟨gb, 0, none⟩), .slice Av lv.length cv, .slice (some ⟨q1, 0, none⟩) 1 1, .slice A1 lv.length c1, .pointer (some ⟨gb, 2, none⟩), .slice Am lm.length cm, .slice (some ⟨q2, 0, none⟩) 1 1, undef, .pointer (some ⟨gb, 3, none⟩), .slice Ap lp.length cp, undef, undef, undef, undef, undef, undef, undef, undef, undef, undef, undef, undef, undef, undef, undef, undef, undef, undef, undef, undef], defers := [] } w := by
  refine wpAnyH_ready (rs := [7, 10, 13]) (by kernel_rfl) (by simp) ?_
  refine AllReadyH.cons (o := clop7) rfl (fun K hK => ?_) (AllReadyH.cons (o := clop10) rfl (fun K hK => ?_) (AllReadyH.cons (o := clop13) rfl (fun K hK => ?_) AllReadyH.nil))
  · simp only [clop7]
    go_simp
    go_at_call 160
    refine (join_u32 ⟨lm, Am, cm⟩ q2 1 w k2 (HC.l2 w hB) HC.m2).mono ?_
    rintro e w1 ⟨An, cn, rfl, hown, hb1⟩
    have hB1 := below_step hB hb1
    refine hK.out _ _ hB1 (fun _ => ?_)
    clear hK K
    try simp only [sA, sZ, sS]
    exact cl_1111000 hQ hP HC w1 q1 q2 A1 c1 An cn hB1 (o1.below hb1) (hown.lower hB.size) (AptB.new o1 hown)
  · simp only [clop10]
    go_simp
    have hb1 := below1 w (.cells #[.slice Ap lp.length cp] 54)
    have kn := (Blk.new w 54 #[.slice Ap lp.length cp]).cell 0
    have hB1 := below_step hB hb1
    refine hK.out _ _ hB1 (fun _ => ?_)
    clear hK K
    try simp only [sA, sZ, sS]
    exact cl_1110100 hQ hP HC _ q1 q2 w.heap.size A1 c1 hB1 (below_cell hb1 k2) kn (o1.below hb1)
  · simp only [clop13]
    go_simp
    have hb1 := below1 w (.cells #[.slice none 0 0, .slice none 0 0, .slice none 0 0, .slice none 0 0] 56)
    have hB1 := below_step hB hb1
    refine hK.out _ _ hB1 (fun _ => ?_)
    clear hK K
    try simp only [sA, sZ, sS]
    exact cl_1110001 hQ hP HC _ q1 q2 A1 c1 w.heap.size hB1 (below_cell hb1 k2) (o1.below hb1) ⟨Blk.new _ _ _, hB.size⟩ (OffB.old o1)
theorem cl_1100100 (hQ : clFin W gb v0 v2 lv Av cv lm Am cm lp Ap cp Q) (hP : ∀ c (d : Option Tmp) v a w, Q (.panic c) (a.put d v) w → Q (.panic c) a w) (HC : ClHyp W gb v0 v2 lv Av cv lm Am cm lp Ap cp) (w : World) (q1 : Nat) (q3 : Nat) (A1 : Option Addr) (c1 : Nat) (hB : Below W.heap.size W w) (k3 : w.cell? ⟨q3, 0, none⟩ = some (.slice Ap lp.length cp)) (o1 : OwnL w W.heap.size 4 bcell ⟨lv, A1, c1⟩) :
    wpAnyH Tryz.prog .any clops Q (fun w' => Below W.heap.size W w') 6 #[true, true, true, true, true, true, false, false, true, true, true, false, false, false, false] { tmps := #[v0, .pointer (some ⟨gb, 0, none⟩), v2, undef, undef, undef, .pointer (some ⟨gb, 0, none⟩), .slice Av lv.length cv, .slice (some ⟨q1, 0, none⟩) 1 1, .slice A1 lv.length c1, .pointer (some ⟨gb, 2, none⟩), .slice Am lm.length cm, undef, undef, .pointer (some ⟨gb, 3, none⟩), .slice Ap lp.length cp, .slice (some ⟨q3, 0, none⟩) 1 1, undef, undef, undef, undef, undef, undef, undef, undef, undef, undef, undef, undef, undef, undef, undef, undef, undef, undef, undef], defers := [] } w := by
  refine wpAnyH_ready (rs := [6, 13]) (by kernel_rfl) (by simp) ?_
  refine AllReadyH.cons (o := clop6) rfl (fun K hK => ?_) (AllReadyH.cons (o := clop13) rfl (fun K hK => ?_) AllReadyH.nil)
  · simp only [clop6]
    go_simp
    have hb1 := below1 w (.cells #[.slice Am lm.length cm] 53)
    have kn := (Blk.new w 53 #[.slice Am lm.length cm]).cell 0
    have hB1 := below_step hB hb1
    refine hK.out _ _ hB1 (fun _ => ?_)
    clear hK K
    try simp only [sA, sZ, sS]
    exact cl_1110100 hQ hP HC _ q1 w.heap.size q3 A1 c1 hB1 kn (below_cell hb1 k3) (o1.below hb1)
  · simp only [clop13]
    go_simp
    have hb1 := below1 w (.cells #[.slice none 0 0, .slice none 0 0, .slice none 0 0, .slice none 0 0] 56)
    have hB1 := below_step hB hb1
    refine hK.out _ _ hB1 (fun _ => ?_)
    clear hK K
    try simp only [sA, sZ, sS]
    exact cl_1100101 hQ hP HC _ q1 q3 A1 c1 w.heap.size hB1 (below_cell hb1 k3) (o1.below hb1) ⟨Blk.new _ _ _, hB.size⟩ (OffB.old o1)
theorem cl_1100001 (hQ : clFin W gb v0 v2 lv Av cv lm Am cm lp Ap cp Q) (hP : ∀ c (d : Option Tmp) v a w, Q (.panic c) (a.put d v) w → Q (.panic c) a w) (HC : ClHyp W gb v0 v2 lv Av cv lm Am cm lp Ap cp) (w : World) (q1 : Nat) (A1 : Option Addr) (c1 : Nat) (ga : Nat) (hB : Below W.heap.size W w) (o1 : OwnL w W.heap.size 4 bcell ⟨lv, A1, c1⟩) (ha : Blk w ga 56 #[.slice none 0 0, .slice none 0 0, .slice none 0 0, .slice none 0 0] ∧ W.heap.size ≤ ga) (f1 : OffB ga (⟨lv, A1, c1⟩ : L Bool).v) :
    wpAnyH Tryz.prog .any clops Q (fun w' => Below W.heap.size W w') 6 #[true, true, true, true, true, true, false, false, true, true, false, false, false, true, false] { tmps := #[v0, .pointer (some ⟨gb, 0, none⟩), v2, .pointer (some ⟨ga, 0, none⟩), undef, undef, .pointer (some ⟨gb, 0, none⟩), .slice Av lv.length cv, .slice (some ⟨q1, 0, none⟩) 1 1, .slice A1 lv.length c1, .pointer (some ⟨gb, 2, none⟩), .slice Am lm.length cm, undef, undef, .pointer (some ⟨gb, 3, none⟩), .slice Ap lp.length cp, undef, undef, undef, undef, undef, undef, undef, undef, undef, undef, undef, undef, undef, undef, undef, undef, undef, undef, undef, undef], defers := [] } w := by
  refine wpAnyH_ready (rs := [6, 10]) (by kernel_rfl) (by simp) ?_
  refine AllReadyH.cons (o := clop6) rfl (fun K hK => ?_) (AllReadyH.cons (o := clop10) rfl (fun K hK => ?_) AllReadyH.nil)
  · simp only [clop6]
    go_simp
    have hb1 := below1 w (.cells #[.slice Am lm.length cm] 53)
    have kn := (Blk.new w 53 #[.slice Am lm.length cm]).cell 0
    have hB1 := below_step hB hb1
    refine hK.out _ _ hB1 (fun _ => ?_)
    clear hK K
    try simp only [sA, sZ, sS]
    exact cl_1110001 hQ hP HC _ q1 w.heap.size A1 c1 ga hB1 kn (o1.below hb1) ⟨ha.1.below hb1 ha.1.lt, ha.2⟩ f1
  · simp only [clop10]
    go_simp
    have hb1 := below1 w (.cells #[.slice Ap lp.length cp] 54)
    have kn := (Blk.new w 54 #[.slice Ap lp.length cp]).cell 0
    have hB1 := below_step hB hb1
    refine hK.out _ _ hB1 (fun _ => ?_)
    clear hK K
    try simp only [sA, sZ, sS]
    exact cl_1100101 hQ hP HC _ q1 w.heap.size A1 c1 ga hB1 kn (o1.below hb1) ⟨ha.1.below hb1 ha.1.lt, ha.2⟩ f1
theorem cl_1010100 (hQ : clFin W gb v0 v2 lv Av cv lm Am cm lp Ap cp Q) (hP : ∀ c (d : Option Tmp) v a w, Q (.panic c) (a.put d v) w → Q (.panic c) a w) (HC : ClHyp W gb v0 v2 lv Av cv lm Am cm lp Ap cp) (w : World) (q1 : Nat) (q2 : Nat) (q3 : Nat) (hB : Below W.heap.size W w) (k1 : w.cell? ⟨q1, 0, none⟩ = some (.slice Av lv.length cv)) (k2 : w.cell? ⟨q2, 0, none⟩ = some (.slice Am lm.length cm)) (k3 : w.cell? ⟨q3, 0, none⟩ = some (.slice Ap lp.length cp)) :
    wpAnyH Tryz.prog .any clops Q (fun w' => Below W.heap.size W w') 6 #[true, true, true, false, true, true, true, false, true, true, true, false, false, false, false] { tmps := #[v0, .pointer (some ⟨gb, 0, none⟩), v2, undef, undef, undef, .pointer (some ⟨gb, 0, none⟩), .slice Av lv.length cv, .slice (some ⟨q1, 0, none⟩) 1 1, undef, .pointer (some ⟨gb, 2, none⟩), .slice Am lm.length cm, .slice (some ⟨q2, 0, none⟩) 1 1, undef, .pointer (some ⟨gb, 3, none⟩), .slice Ap lp.length cp, .slice (some ⟨q3, 0, none⟩) 1 1, undef, undef, undef, undef, undef, undef, undef, undef, undef, undef, undef, undef, undef, undef, undef, undef, undef, undef, undef], defers := [] } w := by
  refine wpAnyH_ready (rs := [3, 13]) (by kernel_rfl) (by simp) ?_
  refine AllReadyH.cons (o := clop3) rfl (fun K hK => ?_) (AllReadyH.cons (o := clop13) rfl (fun K hK => ?_) AllReadyH.nil)
  · simp only [clop3]
    go_simp
    go_at_call 159
    refine (join_bool ⟨lv, Av, cv⟩ q1 1 w k1 (HC.l1 w hB) HC.m1).mono ?_
    rintro e w1 ⟨An, cn, rfl, hown, hb1⟩
    have hB1 := below_step hB hb1
    refine hK.out _ _ hB1 (fun _ => ?_)
    clear hK K
    try simp only [sA, sZ, sS]
    exact cl_1110100 hQ hP HC w1 q1 q2 q3 An cn hB1 (below_cell hb1 k2) (below_cell hb1 k3) (hown.lower hB.size)
  · simp only [clop13]
    go_simp
    have hb1 := below1 w (.cells #[.slice none 0 0, .slice none 0 0, .slice none 0 0, .slice none 0 0] 56)
    have hB1 := below_step hB hb1
    refine hK.out _ _ hB1 (fun _ => ?_)
    clear hK K
    try simp only [sA, sZ, sS]
    exact cl_1010101 hQ hP HC _ q1 q2 q3 w.heap.size hB1 (below_cell hb1 k1) (below_cell hb1 k2) (below_cell hb1 k3) ⟨Blk.new _ _ _, hB.size⟩
theorem cl_1010001 (hQ : clFin W gb v0 v2 lv Av cv lm Am cm lp Ap cp Q) (hP : ∀ c (d : Option Tmp) v a w, Q (.panic c) (a.put d v) w → Q (.panic c) a w) (HC : ClHyp W gb v0 v2 lv Av cv lm Am cm lp Ap cp) (w : World) (q1 : Nat) (q2 : Nat) (ga : Nat) (hB : Below W.heap.size W w) (k1 : w.cell? ⟨q1, 0, none⟩ = some (.slice Av lv.length cv)) (k2 : w.cell? ⟨q2, 0, none⟩ = some (.slice Am lm.length cm)) (ha : Blk w ga 56 #[.slice none 0 0, .slice none 0 0, .slice none 0 0, .slice none 0 0] ∧ W.heap.size ≤ ga) :
    wpAnyH Tryz.prog .any clops Q (fun w' => Below W.heap.size W w') 6 #[true, true, true, false, true, true, true, false, true, true, false, false, false, true, false] { tmps := #[v0, .pointer (some ⟨gb, 0, none⟩), v2, .pointer (some ⟨ga, 0, none⟩), undef, undef, .pointer (some ⟨gb, 0, none⟩), .slice Av lv.length cv, .slice (some ⟨q1, 0, none⟩) 1 1, undef, .pointer (some ⟨gb, 2, none⟩), .slice Am lm.length cm, .slice (some ⟨q2, 0, none⟩) 1 1, undef, .pointer (some ⟨gb, 3, none⟩), .slice Ap lp.length cp, undef, undef, undef, undef, undef, undef, undef, undef, undef, undef, undef, undef, undef, undef, undef, undef, undef, undef, undef, undef], defers := [] } w := by
  refine wpAnyH_ready (rs := [3, 10]) (by kernel_rfl) (by simp) ?_
  refine AllReadyH.cons (o := clop3) rfl (fun K hK => ?_) (AllReadyH.cons (o := clop10) rfl (fun K hK => ?_) AllReadyH.nil)
  · simp only [clop3]
    go_simp
    go_at_call 159
    refine (join_bool ⟨lv, Av, cv⟩ q1 1 w k1 (HC.l1 w hB) HC.m1).mono ?_
    rintro e w1 ⟨An, cn, rfl, hown, hb1⟩
    have hB1 := below_step hB hb1
    refine hK.out _ _ hB1 (fun _ => ?_)
    clear hK K
    try simp only [sA, sZ, sS]
    exact cl_1110001 hQ hP HC w1 q1 q2 An cn ga hB1 (below_cell hb1 k2) (hown.lower hB.size) ⟨ha.1.below hb1 ha.1.lt, ha.2⟩ (OffB.new ha.1 hown)
  · simp only [clop10]
    go_simp
    have hb1 := below1 w (.cells #[.slice Ap lp.length cp] 54)
    have kn := (Blk.new w 54 #[.slice Ap lp.length cp]).cell 0
    have hB1 := below_step hB hb1
    refine hK.out _ _ hB1 (fun _ => ?_)
    clear hK K
    try simp only [sA, sZ, sS]
    exact cl_1010101 hQ hP HC _ q1 q2 w.heap.size ga hB1 (below_cell hb1 k1) (below_cell hb1 k2) kn ⟨ha.1.below hb1 ha.1.lt, ha.2⟩
theorem cl_1000101 (hQ : clFin W gb v0 v2 lv Av cv lm Am cm lp Ap cp Q) (hP : ∀ c (d : Option Tmp) v a w, Q (.panic c) (a.put d v) w → Q (.panic c) a w) (HC : ClHyp W gb v0 v2 lv Av cv lm Am cm lp Ap cp) (w : World) (q1 : Nat) (q3 : Nat) (ga : Nat) (hB : Below W.heap.size W w) (k1 : w.cell? ⟨q1, 0, none⟩ = some (.slice Av lv.length cv)) (k3 : w.cell? ⟨q3, 0, none⟩ = some (.slice Ap lp.length cp)) (ha : Blk w ga 56 #[.slice none 0 0, .slice none 0 0, .slice none 0 0, .slice none 0 0] ∧ W.heap.size ≤ ga) :
    wpAnyH Tryz.prog .any clops Q (fun w' => Below W.heap.size W w') 6 #[true, true, true, false, true, true, false, false, true, true, true, false, false, true, false] { tmps := #[v0, .pointer (some ⟨gb, 0, none⟩), v2, .pointer (some ⟨ga, 0, none⟩), undef, undef, .pointer (some ⟨gb, 0, none⟩), .slice Av lv.length cv, .slice (some ⟨q1, 0, none⟩) 1 1, undef, .pointer (some ⟨gb, 2, none⟩), .slice Am lm.length cm, undef, undef, .pointer (some ⟨gb, 3, none⟩), .slice Ap lp.length cp, .slice (some ⟨q3, 0, none⟩) 1 1, undef, undef, undef, undef, undef, undef, undef, undef, undef, undef, undef, undef, undef, undef, undef, undef, undef, undef, undef], defers := [] } w := by
  refine wpAnyH_ready (rs := [3, 6]) (by kernel_rfl) (by simp) ?_
  refine AllReadyH.cons (o := clop3) rfl (fun K hK => ?_) (AllReadyH.cons (o := clop6) rfl (fun K hK => ?_) AllReadyH.nil)
  · simp only [clop3]
    go_simp
    go_at_call 159
    refine (join_bool ⟨lv, Av, cv⟩ q1 1 w k1 (HC.l1 w hB) HC.m1).mono ?_
    rintro e w1 ⟨An, cn, rfl, hown, hb1⟩
    have hB1 := below_step hB hb1
    refine hK.out _ _ hB1 (fun _ => ?_)
    clear hK K
    try simp only [sA, sZ, sS]
    exact cl_1100101 hQ hP HC w1 q1 q3 An cn ga hB1 (below_cell hb1 k3) (hown.lower hB.size) ⟨ha.1.below hb1 ha.1.lt, ha.2⟩ (OffB.new ha.1 hown)
  · simp only [clop6]
    go_simp
    have hb1 := below1 w (.cells #[.slice Am lm.length cm] 53)
    have kn := (Blk.new w 53 #[.slice Am lm.length cm]).cell 0
    have hB1 := below_step hB hb1
    refine hK.out _ _ hB1 (fun _ => ?_)
    clear hK K
    try simp only [sA, sZ, sS]
    exact cl_1010101 hQ hP HC _ q1 w.heap.size q3 ga hB1 (below_cell hb1 k1) kn (below_cell hb1 k3) ⟨ha.1.below hb1 ha.1.lt, ha.2⟩
theorem cl_0010101 (hQ : clFin W gb v0 v2 lv Av cv lm Am cm lp Ap cp Q) (hP : ∀ c (d : Option Tmp) v a w, Q (.panic c) (a.put d v) w → Q (.panic c) a w) (HC : ClHyp W gb v0 v2 lv Av cv lm Am cm lp Ap cp) (w : World) (q2 : Nat) (q3 : Nat) (ga : Nat) (hB : Below W.heap.size W w) (k2 : w.cell? ⟨q2, 0, none⟩ = some (.slice Am lm.length cm)) (k3 : w.cell? ⟨q3, 0, none⟩ = some (.slice Ap lp.length cp)) (ha : Blk w ga 56 #[.slice none 0 0, .slice none 0 0, .slice none 0 0, .slice none 0 0] ∧ W.heap.size ≤ ga) :
    wpAnyH Tryz.prog .any clops Q (fun w' => Below W.heap.size W w') 6 #[true, true, false, false, true, true, true, false, true, true, true, false, false, true, false] { tmps := #[v0, .pointer (some ⟨gb, 0, none⟩), v2, .pointer (some ⟨ga, 0, none⟩), undef, undef, .pointer (some ⟨gb, 0, none⟩), .slice Av lv.length cv, undef, undef, .pointer (some ⟨gb, 2, none⟩), .slice Am lm.length cm, .slice (some ⟨q2, 0, none⟩) 1 1, undef, .pointer (some ⟨gb, 3, none⟩), .slice Ap lp.length cp, .slice (some ⟨q3, 0, none⟩) 1 1, undef, undef, undef, undef, undef, undef, undef, undef, undef, undef, undef, undef, undef, undef, undef, undef, undef, undef, undef], defers := [] } w := by
  refine wpAnyH_ready (rs := [2]) (by kernel_rfl) (by simp) ?_
  refine AllReadyH.cons (o := clop2) rfl (fun K hK => ?_) AllReadyH.nil
  · simp only [clop2]
    go_simp
    have hb1 := below1 w (.cells #[.slice Av lv.length cv] 51)
    have kn := (Blk.new w 51 #[.slice Av lv.length cv]).cell 0
    have hB1 := below_step hB hb1
    refine hK.out _ _ hB1 (fun _ => ?_)
    clear hK K
    try simp only [sA, sZ, sS]
    exact cl_1010101 hQ hP HC _ w.heap.size q2 q3 ga hB1 kn (below_cell hb1 k2) (below_cell hb1 k3) ⟨ha.1.below hb1 ha.1.lt, ha.2⟩
theorem cl_1100000 (hQ : clFin W gb v0 v2 lv Av cv lm Am cm lp Ap cp Q) (hP : ∀ c (d : Option Tmp) v a w, Q (.panic c) (a.put d v) w → Q (.panic c) a w) (HC : ClHyp W gb v0 v2 lv Av cv lm Am cm lp Ap cp) (w : World) (q1 : Nat) (A1 : Option Addr) (c1 : Nat) (hB : Below W.heap.size W w) (o1 : OwnL w W.heap.size 4 bcell ⟨lv, A1, c1⟩) :
    wpAnyH Tryz.prog .any clops Q (fun w' => Below W.heap.size W w') 7 #[true, true, true, true, true, true, false, false, true, true, false, false, false, false, false] { tmps := #[v0, .pointer (some ⟨gb, 0, none⟩), v2, undef, undef, undef, .pointer (some ⟨gb, 0, none⟩), .slice Av lv.length cv, .slice (some ⟨q1, 0, none⟩) 1 1, .slice A1 lv.length c1, .pointer (some ⟨gb, 2, none⟩), .slice Am lm.length cm, undef, undef, .pointer (some ⟨gb, 3, none⟩), .slice Ap lp.length cp, undef, undef, undef, undef, undef, undef, undef, undef, undef, undef, undef, undef, undef, undef, undef, undef, undef, undef, undef, undef], defers := [] } w := by
  refine wpAnyH_ready (rs := [6, 10, 13]) (by kernel_rfl) (by simp) ?_
  refine AllReadyH.cons (o := clop6) rfl (fun K hK => ?_) (AllReadyH.cons (o := clop10) rfl (fun K hK => ?_) (AllReadyH.cons (o := clop13) rfl (fun K hK => ?_) AllReadyH.nil))
  · simp only [clop6]
    go_simp
    have hb1 := below1 w (.cells #[.slice Am lm.length cm] 53)
    have kn := (Blk.new w 53 #[.slice Am lm.length cm]).cell 0
    have hB1 := below_step hB hb1
    refine hK.out _ _ hB1 (fun _ => ?_)
    clear hK K
    try simp only [sA, sZ, sS]
    exact cl_1110000 hQ hP HC _ q1 w.heap.size A1 c1 hB1 kn (o1.below hb1)
  · simp only [clop10]
    go_simp
    have hb1 := below1 w (.cells #[.slice Ap lp.length cp] 54)
    have kn := (Blk.new w 54 #[.slice Ap lp.length cp]).cell 0
    have hB1 := below_step hB hb1
    refine hK.out _ _ hB1 (fun _ => ?_)
    clear hK K
    try simp only [sA, sZ, sS]
    exact cl_1100100 hQ hP HC _ q1 w.heap.size A1 c1 hB1 kn (o1.below hb1)
  · simp only [clop13]
    go_simp
    have hb1 := below1 w (.cells #[.slice none 0 0, .slice none 0 0, .slice none 0 0, .slice none 0 0] 56)
    have hB1 := below_step hB hb1
    refine hK.out _ _ hB1 (fun _ => ?_)
    clear hK K
    try simp only [sA, sZ, sS]
    exact cl_1100001 hQ hP HC _ q1 A1 c1 w.heap.size hB1 (o1.below hb1) ⟨Blk.new _ _ _, hB.size⟩ (OffB.old o1)
theorem cl_1010000 (hQ : clFin W gb v0 v2 lv Av cv lm Am cm lp Ap cp Q) (hP : ∀ c (d : Option Tmp) v a w, Q (.panic c) (a.put d v) w → Q (.panic c) a w) (HC : ClHyp W gb v0 v2 lv Av cv lm Am cm lp Ap cp) (w : World) (q1 : Nat) (q2 : Nat) (hB : Below W.heap.size W w) (k1 : w.cell? ⟨q1, 0, none⟩ = some (.slice Av lv.length cv)) (k2 : w.cell? ⟨q2, 0, none⟩ = some (.slice Am lm.length cm)) :
    wpAnyH Tryz.prog .any clops Q (fun w' => Below W.heap.size W w') 7 #[true, true, true, false, true, true, true, false, true, true, false, false, false, false, false] { tmps := #[v0, .pointer (some ⟨gb, 0, none⟩), v2, undef, undef, undef, .pointer (some ⟨gb, 0, none⟩), .slice Av lv.length cv, .slice (some ⟨q1, 0, none⟩) 1 1, undef, .pointer (some ⟨gb, 2, none⟩), .slice Am lm.length cm, .slice (some ⟨q2, 0, none⟩) 1 1, undef, .pointer (some ⟨gb, 3, none⟩), .slice Ap lp.length cp, undef, undef, undef, undef, undef, undef, undef, undef, undef, undef, undef, undef, undef, undef, undef, undef, undef, undef, undef, undef], defers := [] } w := by
  refine wpAnyH_ready (rs := [3, 10, 13]) (by kernel_rfl) (by simp) ?_
  refine AllReadyH.cons (o := clop3) rfl (fun K hK => ?_) (AllReadyH.cons (o := clop10) rfl (fun K hK => ?_) (AllReadyH.cons (o := clop13) rfl (fun K hK => ?_) AllReadyH.nil))
  · simp only [clop3]
    go_simp
    go_at_call 159
    refine (join_bool ⟨lv, Av, cv⟩ q1 1 w k1 (HC.l1 w hB) HC.m1).mono ?_
    rintro e w1 ⟨An, cn, rfl, hown, hb1⟩
    have hB1 := below_step hB hb1
    refine hK.out _ _ hB1 (fun _ => ?_)
    clear hK K
    try simp only [sA, sZ, sS]
    exact cl_1110000 hQ hP HC w1 q1 q2 An cn hB1 (below_cell hb1 k2) (hown.lower hB.size)
  · simp only [clop10]
    go_simp
    have hb1 := below1 w (.cells #[.slice Ap lp.length cp] 54)
    have kn := (Blk.new w 54 #[.slice Ap lp.length cp]).cell 0
    have hB1 := below_step hB hb1
    refine hK.out _ _ hB1 (fun _ => ?_)
    clear hK K
    try simp only [sA, sZ, sS]
    exact cl_1010100 hQ hP HC _ q1 q2 w.heap.size hB1 (below_cell hb1 k1) (below_cell hb1 k2) kn
  · simp only [clop13]
    go_simp
    have hb1 := below1 w (.cells #[.slice none 0 0, .slice none 0 0, .slice none 0 0, .slice none 0 0] 56)
    have hB1 := below_step hB hb1
    refine hK.out _ _ hB1 (fun _ => ?_)
    clear hK K
    try simp only [sA, sZ, sS]
    exact cl_1010001 hQ hP HC _ q1 q2 w.heap.size hB1 (below_cell hb1 k1) (below_cell hb1 k2) ⟨Blk.new _ _ _, hB.size⟩
theorem cl_1000100 (hQ : clFin W gb v0 v2 lv Av cv lm Am cm lp Ap cp Q) (hP : ∀ c (d : Option Tmp) v a w, Q (.panic c) (a.put d v) w → Q (.panic c) a w) (HC : ClHyp W gb v0 v2 lv Av cv lm Am cm lp Ap cp) (w : World) (q1 : Nat) (q3 : Nat) (hB : Below W.heap.size W w) (k1 : w.cell? ⟨q1, 0, none⟩ = some (.slice Av lv.length cv)) (k3 : w.cell? ⟨q3, 0, none⟩ = some (.slice Ap lp.length cp)) :
    wpAnyH Tryz.prog .any clops Q (fun w' => Below W.heap.size W w') 7 #[true, true, true, false, true, true, false, false, true, true, true, false, false, false, false] { tmps := #[v0, .pointer (some ⟨gb, 0, none⟩), v2, undef, undef, undef, .pointer (some ⟨gb, 0, none⟩), .slice Av lv.length cv, .slice (some ⟨q1, 0, none⟩) 1 1, undef, .pointer (some ⟨gb, 2, none⟩), .slice Am lm.length cm, undef, undef, .pointer (some ⟨gb, 3, none⟩), .slice Ap lp.length cp, .slice (some ⟨q3, 0, none⟩) 1 1, undef, undef, undef, undef, undef, undef, undef, undef, undef, undef, undef, undef, undef, undef, undef, undef, undef, undef, undef], defers := [] } w := by
  refine wpAnyH_ready (rs := [3, 6, 13]) (by kernel_rfl) (by simp) ?_
  refine AllReadyH.cons (o := clop3) rfl (fun K hK => ?_) (AllReadyH.cons (o := clop6) rfl (fun K hK => ?_) (AllReadyH.cons (o := clop13) rfl (fun K hK => ?_) AllReadyH.nil))
  · simp only [clop3]
    go_simp
    go_at_call 159
    refine (join_bool ⟨lv, Av, cv⟩ q1 1 w k1 (HC.l1 w hB) HC.m1).mono ?_
    rintro e w1 ⟨An, cn, rfl, hown, hb1⟩
    have hB1 := below_step hB hb1
    refine hK.out _ _ hB1 (fun _ => ?_)
    clear hK K
    try simp only [sA, sZ, sS]
    exact cl_1100100 hQ hP HC w1 q1 q3 An cn hB1 (below_cell hb1 k3) (hown.lower hB.size)
  · simp only [clop6]
    go_simp
    have hb1 := below1 w (.cells #[.slice Am lm.length cm] 53)
    have kn := (Blk.new w 53 #[.slice Am lm.length cm]).cell 0
    have hB1 := below_step hB hb1
    refine hK.out _ _ hB1 (fun _ => ?_)
    clear hK K
    try simp only [sA, sZ, sS]
    exact cl_1010100 hQ hP HC _ q1 w.heap.size q3 hB1 (below_cell hb1 k1) kn (below_cell hb1 k3)
  · simp only [clop13]
    go_simp
    have hb1 := below1 w (.cells #[.slice none 0 0, .slice none 0 0, .slice none 0 0, .slice none 0 0] 56)
    have hB1 := below_step hB hb1
    refine hK.out _ _ hB1 (fun _ => ?_)
    clear hK K
    try simp only [sA, sZ, sS]
    exact cl_1000101 hQ hP HC _ q1 q3 w.heap.size hB1 (below_cell hb1 k1) (below_cell hb1 k3) ⟨Blk.new _ _ _, hB.size⟩
theorem cl_1000001 (hQ : clFin W gb v0 v2 lv Av cv lm Am cm lp Ap cp Q) (hP : ∀ c (d : Option Tmp) v a w, Q (.panic c) (a.put d v) w → Q (.panic c) a w) (HC : ClHyp W gb v0 v2 lv Av cv lm Am cm lp Ap cp) (w : World) (q1 : Nat) (ga : Nat) (hB : Below W.heap.size W w) (k1 : w.cell? ⟨q1, 0, none⟩ = some (.slice Av lv.length cv)) (ha : Blk w ga 56 #[.slice none 0 0, .slice none 0 0, .slice none 0 0, .slice none 0 0] ∧ W.heap.size ≤ ga) :
    wpAnyH Tryz.prog .any clops Q (fun w' => Below W.heap.size W w') 7 #[true, true, true, false, true, true, false, false, true, true, false, false, false, true, false] { tmps := #[v0, .pointer (some ⟨gb, 0, none⟩), v2, .pointer (some ⟨ga, 0, none⟩), undef, undef, .pointer (some ⟨gb, 0, none⟩), .slice Av lv.length cv, .slice (some ⟨q1, 0, none⟩) 1 1, undef, .pointer (some ⟨gb, 2, none⟩), .slice Am lm.length cm, undef, undef, .pointer (some ⟨gb, 3, none⟩), .slice Ap lp.length cp, undef, undef, undef, undef, undef, undef, undef, undef, undef, undef, undef, undef, undef, undef, undef, undef, undef, undef, undef, undef], defers := [] } w := by
  refine wpAnyH_ready (rs := [3, 6, 10]) (by kernel_rfl) (by simp) ?_
  refine AllReadyH.cons (o := clop3) rfl (fun K hK => ?_) (AllReadyH.cons (o := clop6) rfl (fun K hK => ?_) (AllReadyH.cons (o := clop10) rfl (fun K hK => ?_) AllReadyH.nil))
  · simp only [clop3]
    go_simp
    go_at_call 159
    refine (join_bool ⟨lv, Av, cv⟩ q1 1 w k1 (HC.l1 w hB) HC.m1).mono ?_
    rintro e w1 ⟨An, cn, rfl, hown, hb1⟩
    have hB1 := below_step hB hb1
    refine hK.out _ _ hB1 (fun _ => ?_)
    clear hK K
    try simp only [sA, sZ, sS]
    exact cl_1100001 hQ hP HC w1 q1 An cn ga hB1 (hown.lower hB.size) ⟨ha.1.below hb1 ha.1.lt, ha.2⟩ (OffB.new ha.1 hown)
  · simp only [clop6]
    go_simp
    have hb1 := below1 w (.cells #[.slice Am lm.length cm] 53)
    have kn := (Blk.new w 53 #[.slice Am lm.length cm]).cell 0
    have hB1 := below_step hB hb1
    refine hK.out _ _ hB1 (fun _ => ?_)
    clear hK K
    try simp only [sA, sZ, sS]
    exact cl_1010001 hQ hP HC _ q1 w.heap.size ga hB1 (below_cell hb1 k1) kn ⟨ha.1.below hb1 ha.1.lt, ha.2⟩
  · simp only [clop10]
    go_simp
    have hb1 := below1 w (.cells #[.slice Ap lp.length cp] 54)
    have kn := (Blk.new w 54 #[.slice Ap lp.length cp]).cell 0
    have hB1 := below_step hB hb1
    refine hK.out _ _ hB1 (fun _ => ?_)
    clear hK K
    try simp only [sA, sZ, sS]
    exact cl_1000101 hQ hP HC _ q1 w.heap.size ga hB1 (below_cell hb1 k1) kn ⟨ha.1.below hb1 ha.1.lt, ha.2⟩
theorem cl_0010100 (hQ : clFin W gb v0 v2 lv Av cv lm Am cm lp Ap cp Q) (hP : ∀ c (d : Option Tmp) v a w, Q (.panic c) (a.put d v) w → Q (.panic c) a w) (HC : ClHyp W gb v0 v2 lv Av cv lm Am cm lp Ap cp) (w : World) (q2 : Nat) (q3 : Nat) (hB : Below W.heap.size W w) (k2 : w.cell? ⟨q2, 0, none⟩ = some (.slice Am lm.length cm)) (k3 : w.cell? ⟨q3, 0, none⟩ = some (.slice Ap lp.length cp)) :
    wpAnyH Tryz.prog .any clops Q (fun w' => Below W.heap.size W w') 7 #[true, true, false, false, true, true, true, false, true, true, true, false, false, false, false] { tmps := #[v0, .pointer (some ⟨gb, 0, none⟩), v2, undef, undef, undef, .pointer (some ⟨gb, 0, none⟩), .slice Av lv.length cv, undef, undef, .pointer (some ⟨gb, 2, none⟩), .slice Am lm.length cm, .slice (some ⟨q2, 0, none⟩) 1 1, undef, .pointer (some ⟨gb, 3, none⟩), .slice Ap lp.length cp, .slice (some ⟨q3, 0, none⟩) 1 1, undef, undef, undef, undef, undef, undef, undef, undef, undef, undef, undef, undef, undef, undef, undef, undef, undef, undef, undef], defers := [] } w := by
  refine wpAnyH_ready (rs := [2, 13]) (by kernel_rfl) (by simp) ?_
  refine AllReadyH.cons (o := clop2) rfl (fun K hK => ?_) (AllReadyH.cons (o := clop13) rfl (fun K hK => ?_) AllReadyH.nil)
  · simp only [clop2]
    go_simp
    have hb1 := below1 w (.cells #[.slice Av lv.length cv] 51)
    have kn := (Blk.new w 51 #[.slice Av lv.length cv]).cell 0
    have hB1 := below_step hB hb1
    refine hK.out _ _ hB1 (fun _ => ?_)
    clear hK K
    try simp only [sA, sZ, sS]
    exact cl_1010100 hQ hP HC _ w.heap.size q2 q3 hB1 kn (below_cell hb1 k2) (below_cell hb1 k3)
  · simp only [clop13]
    go_simp
    have hb1 := below1 w (.cells #[.slice none 0 0, .slice none 0 0, .slice none 0 0, .slice none 0 0] 56)
    have hB1 := below_step hB hb1
    refine hK.out _ _ hB1 (fun _ => ?_)
    clear hK K
    try simp only [sA, sZ, sS]
    exact cl_0010101 hQ hP HC _ q2 q3 w.heap.size hB1 (below_cell hb1 k2) (below_cell hb1 k3) ⟨Blk.new _ _ _, hB.size⟩
theorem cl_0010001 (hQ : clFin W gb v0 v2 lv Av cv lm Am cm lp Ap cp Q) (hP : ∀ c (d : Option Tmp) v a w, Q (.panic c) (a.put d v) w → Q (.panic c) a w) (HC : ClHyp W gb v0 v2 lv Av cv lm Am cm lp Ap cp) (w : World) (q2 : Nat) (ga : Nat) (hB : Below W.heap.size W w) (k2 : w.cell? ⟨q2, 0, none⟩ = some (.slice Am lm.length cm)) (ha : Blk w ga 56 #[.slice none 0 0, .slice none 0 0, .slice none 0 0, .slice none 0 0] ∧ W.heap.size ≤ ga) :
    wpAnyH Tryz.prog .any clops Q (fun w' => Below W.heap.size W w') 7 #[true, true, false, false, true, true, true, false, true, true, false, false, false, true, false] { tmps := #[v0, .pointer (some ⟨gb, 0, none⟩), v2, .pointer (some ⟨ga, 0, none⟩), undef, undef, .pointer (some ⟨gb, 0, none⟩), .slice Av lv.length cv, undef, undef, .pointer (some ⟨gb, 2, none⟩), .slice Am lm.length cm, .slice (some ⟨q2, 0, none⟩) 1 1, undef, .pointer (some ⟨gb, 3, none⟩), .slice Ap lp.length cp, undef, undef, undef, undef, undef, undef, undef, undef, undef, undef, undef, undef, undef, undef, undef, undef, undef, undef, undef, undef], defers := [] } w := by
  refine wpAnyH_ready (rs := [2, 10]) (by kernel_rfl) (by simp) ?_
  refine AllReadyH.cons (o := clop2) rfl (fun K hK => ?_) (AllReadyH.cons (o := clop10) rfl (fun K hK => ?_) AllReadyH.nil)
  · simp only [clop2]
    go_simp
    have hb1 := below1 w (.cells #[.slice Av lv.length cv] 51)
    have kn := (Blk.new w 51 #[.slice Av lv.length cv]).cell 0
    have hB1 := below_step hB hb1
    refine hK.out _ _ hB1 (fun _ => ?_)
    clear hK K
    try simp only [sA, sZ, sS]
    exact cl_1010001 hQ hP HC _ w.heap.size q2 ga hB1 kn (below_cell hb1 k2) ⟨ha.1.below hb1 ha.1.lt, ha.2⟩
  · simp only [clop10]
    go_simp
    have hb1 := below1 w (.cells #[.slice Ap lp.length cp] 54)
    have kn := (Blk.new w 54 #[.slice Ap lp.length cp]).cell 0
    have hB1 := below_step hB hb1
    refine hK.out _ _ hB1 (fun _ => ?_)
    clear hK K
    try simp only [sA, sZ, sS]
    exact cl_0010101 hQ hP HC _ q2 w.heap.size ga hB1 (below_cell hb1 k2) kn ⟨ha.1.below hb1 ha.1.lt, ha.2⟩
theorem cl_0000101 (hQ : clFin W gb v0 v2 lv Av cv lm Am cm lp Ap cp Q) (hP : ∀ c (d : Option Tmp) v a w, Q (.panic c) (a.put d v) w → Q (.panic c) a w) (HC : ClHyp W gb v0 v2 lv Av cv lm Am cm lp Ap cp) (w : World) (q3 : Nat) (ga : Nat) (hB : Below W.heap.size W w) (k3 : w.cell? ⟨q3, 0, none⟩ = some (.slice Ap lp.length cp)) (ha : Blk w ga 56 #[.slice none 0 0, .slice none 0 0, .slice none 0 0, .slice none 0 0] ∧ W.heap.size ≤ ga) :
    wpAnyH Tryz.prog .any clops Q (fun w' => Below W.heap.size W w') 7 #[true, true, false, false, true, true, false, false, true, true, true, false, false, true, false] { tmps := #[v0, .pointer (some ⟨gb, 0, none⟩), v2, .pointer (some ⟨ga, 0, none⟩), undef, undef, .pointer (some ⟨gb, 0, none⟩), .slice Av lv.length cv, undef, undef, .pointer (some ⟨gb, 2, none⟩), .slice Am lm.length cm, undef, undef, .pointer (some ⟨gb, 3, none⟩), .slice Ap lp.length cp, .slice (some ⟨q3, 0, none⟩) 1 1, undef, undef, undef, undef, undef, undef, undef, undef, undef, undef, undef, undef, undef, undef, undef, undef, undef, undef, undef], defers := [] } w := by
  refine wpAnyH_ready (rs := [2, 6]) (by kernel_rfl) (by simp) ?_
  refine AllReadyH.cons (o := clop2) rfl (fun K hK => ?_) (AllReadyH.cons (o := clop6) rfl (fun K hK => ?_) AllReadyH.nil)
  · simp only [clop2]
    go_simp
    have hb1 := below1 w (.cells #[.slice Av lv.length cv] 51)
    have kn := (Blk.new w 51 #[.slice Av lv.length cv]).cell 0
    have hB1 := below_step hB hb1
    refine hK.out _ _ hB1 (fun _ => ?_)
    clear hK K
    try simp only [sA, sZ, sS]
    exact cl_1000101 hQ hP HC _ w.heap.size q3 ga hB1 kn (below_cell hb1 k3) ⟨ha.1.below hb1 ha.1.lt, ha.2⟩
  · simp only [clop6]
    go_simp
    have hb1 := below1 w (.cells #[.slice Am lm.length cm] 53)
    have kn := (Blk.new w 53 #[.slice Am lm.length cm]).cell 0
    have hB1 := below_step hB hb1
    refine hK.out _ _ hB1 (fun _ => ?_)
    clear hK K
    try simp only [sA, sZ, sS]
    exact cl_0010101 hQ hP HC _ w.heap.size q3 ga hB1 kn (below_cell hb1 k3) ⟨ha.1.below hb1 ha.1.lt, ha.2⟩
theorem cl_1000000 (hQ : clFin W gb v0 v2 lv Av cv lm Am cm lp Ap cp Q) (hP : ∀ c (d : Option Tmp) v a w, Q (.panic c) (a.put d v) w → Q (.panic c) a w) (HC : ClHyp W gb v0 v2 lv Av cv lm Am cm lp Ap cp) (w : World) (q1 : Nat) (hB : Below W.heap.size W w) (k1 : w.cell? ⟨q1, 0, none⟩ = some (.slice Av lv.length cv)) :
    wpAnyH Tryz.prog .any clops Q (fun w' => Below W.heap.size W w') 8 #[true, true, true, false, true, true, false, false, true, true, false, false, false, false, false] { tmps := #[v0, .pointer (some ⟨gb, 0, none⟩), v2, undef, undef, undef, .pointer (some ⟨gb, 0, none⟩), .slice Av lv.length cv, .slice (some ⟨q1, 0, none⟩) 1 1, undef, .pointer (some ⟨gb, 2, none⟩), .slice Am lm.length cm, undef, undef, .pointer (some ⟨gb, 3, none⟩), .slice Ap lp.length cp, undef, undef, undef, undef, undef, undef, undef, undef, undef, undef, undef, undef, undef, undef, undef, undef, undef, undef, undef, undef], defers := [] } w := by
  refine wpAnyH_ready (rs := [3, 6, 10, 13]) (by kernel_rfl) (by simp) ?_
  refine AllReadyH.cons (o := clop3) rfl (fun K hK => ?_) (AllReadyH.cons (o := clop6) rfl (fun K hK => ?_) (AllReadyH.cons (o := clop10) rfl (fun K hK => ?_) (AllReadyH.cons (o := clop13) rfl (fun K hK => ?_) AllReadyH.nil)))
  · simp only [clop3]
    go_simp
    go_at_call 159
    refine (join_bool ⟨lv, Av, cv⟩ q1 1 w k1 (HC.l1 w hB) HC.m1).mono ?_
    rintro e w1 ⟨An, cn, rfl, hown, hb1⟩
    have hB1 := below_step hB hb1
    refine hK.out _ _ hB1 (fun _ => ?_)
    clear hK K
    try simp only [sA, sZ, sS]
    exact cl_1100000 hQ hP HC w1 q1 An cn hB1 (hown.lower hB.size)
  · simp only [clop6]
    go_simp
    have hb1 := below1 w (.cells #[.slice Am lm.length cm] 53)
    have kn := (Blk.new w 53 #[.slice Am lm.length cm]).cell 0
    have hB1 := below_step hB hb1
    refine hK.out _ _ hB1 (fun _ => ?_)
    clear hK K
    try simp only [sA, sZ, sS]
    exact cl_1010000 hQ hP HC _ q1 w.heap.size hB1 (below_cell hb1 k1) kn
  · simp only [clop10]
    go_simp
    have hb1 := below1 w (.cells #[.slice Ap lp.length cp] 54)
    have kn := (Blk.new w 54 #[.slice Ap lp.length cp]).cell 0
    have hB1 := below_step hB hb1
    refine hK.out _ _ hB1 (fun _ => ?_)
    clear hK K
    try simp only [sA, sZ, sS]
    exact cl_1000100 hQ hP HC _ q1 w.heap.size hB1 (below_cell hb1 k1) kn
  · simp only [clop13]
    go_simp
    have hb1 := below1 w (.cells #[.slice none 0 0, .slice none 0 0, .slice none 0 0, .slice none 0 0] 56)
    have hB1 := below_step hB hb1
    refine hK.out _ _ hB1 (fun _ => ?_)
    clear hK K
    try simp only [sA, sZ, sS]
    exact cl_1000001 hQ hP HC _ q1 w.heap.size hB1 (below_cell hb1 k1) ⟨Blk.new _ _ _, hB.size⟩
theorem cl_0010000 (hQ : clFin W gb v0 v2 lv Av cv lm Am cm lp Ap cp Q) (hP : ∀ c (d : Option Tmp) v a w, Q (.panic c) (a.put d v) w → Q (.panic c) a w) (HC : ClHyp W gb v0 v2 lv Av cv lm Am cm lp Ap cp) (w : World) (q2 : Nat) (hB : Below W.heap.size W w) (k2 : w.cell? ⟨q2, 0, none⟩ = some (.slice Am lm.length cm)) :
    wpAnyH Tryz.prog .any clops Q (fun w' => Below W.heap.size W w') 8 #[true, true, false, false, true, true, true, false, true, true, false, false, false, false, false] { tmps := #[v0, .pointer (some ⟨gb, 0, none⟩), v2, undef, undef, undef, .pointer (some ⟨gb, 0, none⟩), .slice Av lv.length cv, undef, undef, .pointer (some ⟨gb, 2, none⟩), .slice Am lm.length cm, .slice (some ⟨q2, 0, none⟩) 1 1, undef, .pointer (some ⟨gb, 3, none⟩), .slice Ap lp.length cp, undef, undef, undef, undef, undef, undef, undef, undef, undef, undef, undef, undef, undef, undef, undef, undef, undef, undef, undef, undef], defers := [] } w := by
  refine wpAnyH_ready (rs := [2, 10, 13]) (by kernel_rfl) (by simp) ?_
  refine AllReadyH.cons (o := clop2) rfl (fun K hK => ?_) (AllReadyH.cons (o := clop10) rfl (fun K hK => ?_) (AllReadyH.cons (o := clop13) rfl (fun K hK => ?_) AllReadyH.nil))
  · simp only [clop2]
    go_simp
    have hb1 := below1 w (.cells #[.slice Av lv.length cv] 51)
    have kn := (Blk.new w 51 #[.slice Av lv.length cv]).cell 0
    have hB1 := below_step hB hb1
    refine hK.out _ _ hB1 (fun _ => ?_)
    clear hK K
    try simp only [sA, sZ, sS]
    exact cl_1010000 hQ hP HC _ w.heap.size q2 hB1 kn (below_cell hb1 k2)
  · simp only [clop10]
    go_simp
    have hb1 := below1 w (.cells #[.slice Ap lp.length cp] 54)
    have kn := (Blk.new w 54 #[.slice Ap lp.length cp]).cell 0
    have hB1 := below_step hB hb1
    refine hK.out _ _ hB1 (fun _ => ?_)
    clear hK K
    try simp only [sA, sZ, sS]
    exact cl_0010100 hQ hP HC _ q2 w.heap.size hB1 (below_cell hb1 k2) kn
  · simp only [clop13]
    go_simp
    have hb1 := below1 w (.cells #[.slice none 0 0, .slice none 0 0, .slice none 0 0, .slice none 0 0] 56)
    have hB1 := below_step hB hb1
    refine hK.out _ _ hB1 (fun _ => ?_)
    clear hK K
    try simp only [sA, sZ, sS]
    exact cl_0010001 hQ hP HC _ q2 w.heap.size hB1 (below_cell hb1 k2) ⟨Blk.new _ _ _, hB.size⟩
theorem cl_0000100 (hQ : clFin W gb v0 v2 lv Av cv lm Am cm lp Ap cp Q) (hP : ∀ c (d : Option Tmp) v a w, Q (.panic c) (a.put d v) w → Q (.panic c) a w) (HC : ClHyp W gb v0 v2 lv Av cv lm Am cm lp Ap cp) (w : World) (q3 : Nat) (hB : Below W.heap.size W w) (k3 : w.cell? ⟨q3, 0, none⟩ = some (.slice Ap lp.length cp)) :
    wpAnyH Tryz.prog .any clops Q (fun w' => Below W.heap.size W w') 8 #[true, true, false, false, true, true, false, false, true, true, true, false, false, false, false] { tmps := #[v0, .pointer (some ⟨gb, 0, none⟩), v2, undef, undef, undef, .pointer (some ⟨gb, 0, none⟩), .slice Av lv.length cv, undef, undef, .pointer (some ⟨gb, 2, none⟩), .slice Am lm.length cm, undef, undef, .pointer (some ⟨gb, 3, none⟩), .slice Ap lp.length cp, .slice (some ⟨q3, 0, none⟩) 1 1, undef, undef, undef, undef, undef, undef, undef, undef, undef, undef, undef, undef, undef, undef, undef, undef, undef, undef, undef], defers := [] } w := by
  refine wpAnyH_ready (rs := [2, 6, 13]) (by kernel_rfl) (by simp) ?_
  refine AllReadyH.cons (o := clop2) rfl (fun K hK => ?_) (AllReadyH.cons (o := clop6) rfl (fun K hK => ?_) (AllReadyH.cons (o := clop13) rfl (fun K hK => ?_) AllReadyH.nil))
  · simp only [clop2]
    go_simp
    have hb1 := below1 w (.cells #[.slice Av lv.length cv] 51)
    have kn := (Blk.new w 51 #[.slice Av lv.length cv]).cell 0
    have hB1 := below_step hB hb1
    refine hK.out _ _ hB1 (fun _ => ?_)
    clear hK K
    try simp only [sA, sZ, sS]
    exact cl_1000100 hQ hP HC _ w.heap.size q3 hB1 kn (below_cell hb1 k3)
  · simp only [clop6]
    go_simp
    have hb1 := below1 w (.cells #[.slice Am lm.length cm] 53)
    have kn := (Blk.new w 53 #[.slice Am lm.length cm]).cell 0
    have hB1 := below_step hB hb1
    refine hK.out _ _ hB1 (fun _ => ?_)
    clear hK K
    try simp only [sA, sZ, sS]
    exact cl_0010100 hQ hP HC _ w.heap.size q3 hB1 kn (below_cell hb1 k3)
  · simp only [clop13]
    go_simp
    have hb1 := below1 w (.cells #[.slice none 0 0, .slice none 0 0, .slice none 0 0, .slice none 0 0] 56)
    have hB1 := below_step hB hb1
    refine hK.out _ _ hB1 (fun _ => ?_)
    clear hK K
    try simp only [sA, sZ, sS]
    exact cl_0000101 hQ hP HC _ q3 w.heap.size hB1 (below_cell hb1 k3) ⟨Blk.new _ _ _, hB.size⟩
theorem cl_0000001 (hQ : clFin W gb v0 v2 lv Av cv lm Am cm lp Ap cp Q) (hP : ∀ c (d : Option Tmp) v a w, Q (.panic c) (a.put d v) w → Q (.panic c) a w) (HC : ClHyp W gb v0 v2 lv Av cv lm Am cm lp Ap cp) (w : World) (ga : Nat) (hB : Below W.heap.size W w) (ha : Blk w ga 56 #[.slice none 0 0, .slice none 0 0, .slice none 0 0, .slice none 0 0] ∧ W.heap.size ≤ ga) :
    wpAnyH Tryz.prog .any clops Q (fun w' => Below W.heap.size W w') 8 #[true, true, false, false, true, true, false, false, true, true, false, false, false, true, false] { tmps := #[v0, .pointer (some ⟨gb, 0, none⟩), v2, .pointer (some ⟨ga, 0, none⟩), undef, undef, .pointer (some ⟨gb, 0, none⟩), .slice Av lv.length cv, undef, undef, .pointer (some ⟨gb, 2, none⟩), .slice Am lm.length cm, undef, undef, .pointer (some ⟨gb, 3, none⟩), .slice Ap lp.length cp, undef, undef, undef, undef, undef, undef, undef, undef, undef, undef, undef, undef, undef, undef, undef, undef, undef, undef, undef, undef], defers := [] } w := by
  refine wpAnyH_ready (rs := [2, 6, 10]) (by kernel_rfl) (by simp) ?_
  refine AllReadyH.cons (o := clop2) rfl (fun K hK => ?_) (AllReadyH.cons (o := clop6) rfl (fun K hK => ?_) (AllReadyH.cons (o := clop10) rfl (fun K hK => ?_) AllReadyH.nil))
  · simp only [clop2]
    go_simp
    have hb1 := below1 w (.cells #[.slice Av lv.length cv] 51)
    have kn := (Blk.new w 51 #[.slice Av lv.length cv]).cell 0
    have hB1 := below_step hB hb1
    refine hK.out _ _ hB1 (fun _ => ?_)
    clear hK K
    try simp only [sA, sZ, sS]
    exact cl_1000001 hQ hP HC _ w.heap.size ga hB1 kn ⟨ha.1.below hb1 ha.1.lt, ha.2⟩
  · simp only [clop6]
    go_simp
    have hb1 := below1 w (.cells #[.slice Am lm.length cm] 53)
    have kn := (Blk.new w 53 #[.slice Am lm.length cm]).cell 0
    have hB1 := below_step hB hb1
    refine hK.out _ _ hB1 (fun _ => ?_)
    clear hK K
    try simp only [sA, sZ, sS]
    exact cl_0010001 hQ hP HC _ w.heap.size ga hB1 kn ⟨ha.1.below hb1 ha.1.lt, ha.2⟩
  · simp only [clop10]
    go_simp
    have hb1 := below1 w (.cells #[.slice Ap lp.length cp] 54)
    have kn := (Blk.new w 54 #[.slice Ap lp.length cp]).cell 0
    have hB1 := below_step hB hb1
    refine hK.out _ _ hB1 (fun _ => ?_)
    clear hK K
    try simp only [sA, sZ, sS]
    exact cl_0000101 hQ hP HC _ w.heap.size ga hB1 kn ⟨ha.1.below hb1 ha.1.lt, ha.2⟩
theorem cl_0000000 (hQ : clFin W gb v0 v2 lv Av cv lm Am cm lp Ap cp Q) (hP : ∀ c (d : Option Tmp) v a w, Q (.panic c) (a.put d v) w → Q (.panic c) a w) (HC : ClHyp W gb v0 v2 lv Av cv lm Am cm lp Ap cp) (w : World) (hB : Below W.heap.size W w) :
    wpAnyH Tryz.prog .any clops Q (fun w' => Below W.heap.size W w') 9 #[true, true, false, false, true, true, false, false, true, true, false, false, false, false, false] { tmps := #[v0, .pointer (some ⟨gb, 0, none⟩), v2, undef, undef, undef, .pointer (some ⟨gb, 0, none⟩), .slice Av lv.length cv, undef, undef, .pointer (some ⟨gb, 2, none⟩), .slice Am lm.length cm, undef, undef, .pointer (some ⟨gb, 3, none⟩), .slice Ap lp.length cp, undef, undef, undef, undef, undef, undef, undef, undef, undef, undef, undef, undef, undef, undef, undef, undef, undef, undef, undef, undef], defers := [] } w := by
  refine wpAnyH_ready (rs := [2, 6, 10, 13]) (by kernel_rfl) (by simp) ?_
  refine AllReadyH.cons (o := clop2) rfl (fun K hK => ?_) (AllReadyH.cons (o := clop6) rfl (fun K hK => ?_) (AllReadyH.cons (o := clop10) rfl (fun K hK => ?_) (AllReadyH.cons (o := clop13) rfl (fun K hK => ?_) AllReadyH.nil)))
  · simp only [clop2]
    go_simp
    have hb1 := below1 w (.cells #[.slice Av lv.length cv] 51)
    have kn := (Blk.new w 51 #[.slice Av lv.length cv]).cell 0
    have hB1 := below_step hB hb1
    refine hK.out _ _ hB1 (fun _ => ?_)
    clear hK K
    try simp only [sA, sZ, sS]
    exact cl_1000000 hQ hP HC _ w.heap.size hB1 kn
  · simp only [clop6]
    go_simp
    have hb1 := below1 w (.cells #[.slice Am lm.length cm] 53)
    have kn := (Blk.new w 53 #[.slice Am lm.length cm]).cell 0
    have hB1 := below_step hB hb1
    refine hK.out _ _ hB1 (fun _ => ?_)
    clear hK K
    try simp only [sA, sZ, sS]
    exact cl_0010000 hQ hP HC _ w.heap.size hB1 kn
  · simp only [clop10]
    go_simp
    have hb1 := below1 w (.cells #[.slice Ap lp.length cp] 54)
    have kn := (Blk.new w 54 #[.slice Ap lp.length cp]).cell 0
    have hB1 := below_step hB hb1
    refine hK.out _ _ hB1 (fun _ => ?_)
    clear hK K
    try simp only [sA, sZ, sS]
    exact cl_0000100 hQ hP HC _ w.heap.size hB1 kn
  · simp only [clop13]
    go_simp
    have hb1 := below1 w (.cells #[.slice none 0 0, .slice none 0 0, .slice none 0 0, .slice none 0 0] 56)
    have hB1 := below_step hB hb1
    refine hK.out _ _ hB1 (fun _ => ?_)
    clear hK K
    try simp only [sA, sZ, sS]
    exact cl_0000001 hQ hP HC _ w.heap.size hB1 ⟨Blk.new _ _ _, hB.size⟩
theorem cl_region (HC : ClHyp W gb v0 v2 lv Av cv lm Am cm lp Ap cp) (hP : ∀ c (d : Option Tmp) v a w, Q (.panic c) (a.put d v) w → Q (.panic c) a w) (hQ : clFin W gb v0 v2 lv Av cv lm Am cm lp Ap cp Q) :
    (Code.region 1 clops true).wp Tryz.prog Q { tmps := #[v0, .pointer (some ⟨gb, 0, none⟩), v2, undef, undef, undef, undef, undef, undef, undef, undef, undef, undef, undef, undef, undef, undef, undef, undef, undef, undef, undef, undef, undef, undef, undef, undef, undef, undef, undef, undef, undef, undef, undef, undef, undef], defers := [] } W := by
  have q0 := HC.k0
  have q2 := HC.k2
  have q3 := HC.k3
  refine wp_region_held_drew (S := (fun w' => Below W.heap.size W w')) (by kernel_rfl) (below_drew (Below.refl _ _)) (fun hHeld => ?_)
  refine wpAnyH_take (i := 0) (oi := clop0) (v := ?t3v) rfl (by kernel_rfl) (by kernel_rfl) (by kernel_rfl) (fun c a w h => hP c _ _ a w h) (Or.inl ⟨by rfl, ?t3y⟩) (by assumption) ?t3r
  case t3y => (intro w hSw; (try dsimp only at hSw); simp only [clop0]; go_simp; try (with_reducible rfl))
  try simp only [Act.put, clop0, sA, sZ, sS]
  refine wpAnyH_take (i := 1) (oi := clop1) (v := ?t4v) rfl (by kernel_rfl) (by kernel_rfl) (by kernel_rfl) (fun c a w h => hP c _ _ a w h) (Or.inl ⟨by rfl, ?t4y⟩) (by assumption) ?t4r
  case t4y => (intro w hSw; (try dsimp only at hSw); simp only [clop1]; go_simp; try (with_reducible rfl))
  try simp only [Act.put, clop1, sA, sZ, sS]
  refine wpAnyH_take (i := 4) (oi := clop4) (v := ?t5v) rfl (by kernel_rfl) (by kernel_rfl) (by kernel_rfl) (fun c a w h => hP c _ _ a w h) (Or.inl ⟨by rfl, ?t5y⟩) (by assumption) ?t5r
  case t5y => (intro w hSw; (try dsimp only at hSw); simp only [clop4]; go_simp; try (with_reducible rfl))
  try simp only [Act.put, clop4, sA, sZ, sS]
  refine wpAnyH_take (i := 5) (oi := clop5) (v := ?t6v) rfl (by kernel_rfl) (by kernel_rfl) (by kernel_rfl) (fun c a w h => hP c _ _ a w h) (Or.inl ⟨by rfl, ?t6y⟩) (by assumption) ?t6r
  case t6y => (intro w hSw; (try dsimp only at hSw); simp only [clop5]; go_simp; try (with_reducible rfl))
  try simp only [Act.put, clop5, sA, sZ, sS]
  refine wpAnyH_take (i := 8) (oi := clop8) (v := ?t7v) rfl (by kernel_rfl) (by kernel_rfl) (by kernel_rfl) (fun c a w h => hP c _ _ a w h) (Or.inl ⟨by rfl, ?t7y⟩) (by assumption) ?t7r
  case t7y => (intro w hSw; (try dsimp only at hSw); simp only [clop8]; go_simp; try (with_reducible rfl))
  try simp only [Act.put, clop8, sA, sZ, sS]
  refine wpAnyH_take (i := 9) (oi := clop9) (v := ?t8v) rfl (by kernel_rfl) (by kernel_rfl) (by kernel_rfl) (fun c a w h => hP c _ _ a w h) (Or.inl ⟨by rfl, ?t8y⟩) (by assumption) ?t8r
  case t8y => (intro w hSw; (try dsimp only at hSw); simp only [clop9]; go_simp; try (with_reducible rfl))
  try simp only [Act.put, clop9, sA, sZ, sS]
  exact cl_0000000 hQ hP HC _ hHeld
end
structure C5Hyp (w0 : World) (ga B : Nat) (xl : List Int) (xA : Option Addr) (xc : Nat) (lf : List (L Int)) (Af : Option Addr) (cf : Nat) : Prop where
  a1 : ∀ u, Below w0.heap.size w0 u → u.cell? ⟨ga, 1, none⟩ = some (.slice Af lf.length cf)
  lt : ga < w0.heap.size
  fr : ∀ u, Below w0.heap.size w0 u → u.frozen? ⟨ga, 1, none⟩ = false
  lx : ∀ u, Below w0.heap.size w0 u → LOkN u 1 ucell ⟨xl, xA, xc⟩
  of : ∀ u, Below w0.heap.size w0 u → OwnL u B 53 lcell ⟨lf, Af, cf⟩
  off : OffB ga (⟨lf, Af, cf⟩ : L (L Int)).v
  mx : xl.length ≤ 1000
  mf : lf.length ≤ 1000
  le : B ≤ w0.heap.size
def c5op0 : Oper := { dst := some 26, op := Op.fieldAddr 56 (Operand.tmp 3) 1, type := 0, pos := "env.go:157", after := #[], guard := none }
def c5op1 : Oper := { dst := some 27, op := Op.load 52 (Operand.tmp 26), type := 52, pos := "env.go:157", after := #[{ on := 0, ground := Ground.data }], guard := none }
def c5op2 : Oper := { dst := some 28, op := Op.move (Operand.tmp 5), type := 53, pos := "env.go:157", after := #[], guard := none }
def c5op3 : Oper := { dst := some 29, op := Op.buildSlice 52 1 #[(0, Operand.tmp 28)], type := 52, pos := "env.go:157", after := #[{ on := 2, ground := Ground.data }], guard := none }
def c5op4 : Oper := { dst := some 30, op := Op.call { callee := Callee.value (Operand.func 160), args := #[Operand.tmp 29], argTypes := #[52] }, type := 53, pos := "env.go:157", after := #[{ on := 3, ground := Ground.data }], guard := none }
def c5op5 : Oper := { dst := some 31, op := Op.buildSlice 52 1 #[(0, Operand.tmp 30)], type := 52, pos := "env.go:157", after := #[{ on := 4, ground := Ground.data }], guard := none }
def c5op6 : Oper := { dst := some 32, op := Op.call { callee := Callee.builtin Builtin.append, args := #[Operand.tmp 27, Operand.tmp 31], argTypes := #[52, 52] }, type := 52, pos := "env.go:157", after := #[{ on := 1, ground := Ground.data }, { on := 5, ground := Ground.data }, { on := 4, ground := Ground.chain }], guard := none }
def c5op7 : Oper := { dst := some 33, op := Op.fieldAddr 56 (Operand.tmp 3) 1, type := 0, pos := "env.go:157", after := #[{ on := 0, ground := Ground.phase }, { on := 1, ground := Ground.phase }, { on := 2, ground := Ground.phase }, { on := 3, ground := Ground.phase }, { on := 4, ground := Ground.phase }, { on := 5, ground := Ground.phase }, { on := 6, ground := Ground.phase }], guard := none }
def c5op8 : Oper := { dst := none, op := Op.store 52 (Operand.tmp 33) (Operand.tmp 32), type := 0, pos := "env.go:157", after := #[{ on := 7, ground := Ground.data }, { on := 6, ground := Ground.data }, { on := 6, ground := Ground.chain }, { on := 0, ground := Ground.phase }, { on := 1, ground := Ground.phase }, { on := 2, ground := Ground.phase }, { on := 3, ground := Ground.phase }, { on := 4, ground := Ground.phase }, { on := 5, ground := Ground.phase }, { on := 6, ground := Ground.phase }], guard := none }
def c5ops : Array Oper := #[c5op0, c5op1, c5op2, c5op3, c5op4, c5op5, c5op6, c5op7, c5op8]
def C5Fin (w0 : World) (ga B : Nat) (v0 v1 v2 v4 v6 v7 v8 v9 v10 v11 v12 v13 v14 v15 v16 v17 v18 v19 v20 v21 v22 v23 v24 v25 v34 v35 : Value) (xl : List Int) (xA : Option Addr) (xc : Nat) (lf : List (L Int)) (Af : Option Addr) (cf : Nat) (Q : Exit → Act → World → Prop) : Prop :=
  ∀ (wm wz : World) (q1 q2 : Nat) (A1 : Option Addr) (c1 g cap : Nat), Below w0.heap.size w0 wm → OwnL wm w0.heap.size 83 ucell ⟨xl, A1, c1⟩ → wm.grownBy wz (⟨lf, Af, cf⟩ : L (L Int)).v.ownBlock →
    wz.ownsRow B 53 1 (.slice (some ⟨g, 0, none⟩) (lf.length + 1) cap) (lf.length + 1) (lf.flatMap lcell ++ [.slice A1 xl.length c1]) → ((⟨lf, Af, cf⟩ : L (L Int)).v.ownBlock = some g ∨ g = wm.heap.size) → g < wz.heap.size →
    Q .normal { tmps := #[v0, v1, v2, .pointer (some ⟨ga, 0, none⟩), v4, .slice xA xl.length xc, v6, v7, v8, v9, v10, v11, v12, v13, v14, v15, v16, v17, v18, v19, v20, v21, v22, v23, v24, v25, .pointer (some ⟨ga, 1, none⟩), .slice Af lf.length cf, .slice xA xl.length xc, .slice (some ⟨q1, 0, none⟩) 1 1, .slice A1 xl.length c1, .slice (some ⟨q2, 0, none⟩) 1 1, .slice (some ⟨g, 0, none⟩) (lf.length + 1) cap, .pointer (some ⟨ga, 1, none⟩), v34, v35], defers := [] } (wz.setCell ⟨ga, 1, none⟩ (.slice (some ⟨g, 0, none⟩) (lf.length + 1) cap))
section
variable {w0 : World} {ga B : Nat} {v0 v1 v2 v4 v6 v7 v8 v9 v10 v11 v12 v13 v14 v15 v16 v17 v18 v19 v20 v21 v22 v23 v24 v25 v26 v27 v28 v29 v30 v31 v32 v33 v34 v35 : Value} {xl : List Int} {xA : Option Addr} {xc : Nat} {lf : List (L Int)} {Af : Option Addr} {cf : Nat} {Q : Exit → Act → World → Prop}
theorem c5_31 (hQ : C5Fin w0 ga B v0 v1 v2 v4 v6 v7 v8 v9 v10 v11 v12 v13 v14 v15 v16 v17 v18 v19 v20 v21 v22 v23 v24 v25 v34 v35 xl xA xc lf Af cf Q) (hP : ∀ c (d : Option Tmp) v a w, Q (.panic c) (a.put d v) w → Q (.panic c) a w) (HC : C5Hyp w0 ga B xl xA xc lf Af cf) (w : World) (q1 : Nat) (A1 : Option Addr) (c1 : Nat) (q2 : Nat) (hB : Below w0.heap.size w0 w) (o1 : OwnL w w0.heap.size 83 ucell ⟨xl, A1, c1⟩) (k2 : w.cell? ⟨q2, 0, none⟩ = some (.slice A1 xl.length c1)) :
    wpAnyH Tryz.prog .any c5ops Q (fun _ => True) 3 #[true, true, true, true, true, true, false, false, false] { tmps := #[v0, v1, v2, .pointer (some ⟨ga, 0, none⟩), v4, .slice xA xl.length xc, v6, v7, v8, v9, v10, v11, v12, v13, v14, v15, v16, v17, v18, v19, v20, v21, v22, v23, v24, v25, .pointer (some ⟨ga, 1, none⟩), .slice Af lf.length cf, .slice xA xl.length xc, .slice (some ⟨q1, 0, none⟩) 1 1, .slice A1 xl.length c1, .slice (some ⟨q2, 0, none⟩) 1 1, v32, v33, v34, v35], defers := [] } w := by
  refine wpAnyH_ready (rs := [6]) (by kernel_rfl) (by simp) ?_
  refine AllReadyH.cons (o := c5op6) rfl (fun K hK => ?_) AllReadyH.nil
  · obtain ⟨i0, hi, hz0, hz1, hz2⟩ := info_parts info_u32s
    have hown : w.ownsRow B 53 1 (.slice Af lf.length cf) lf.length (lf.flatMap lcell) := HC.of w hB
    refine step_append_lies w (o := c5op6) rfl (Operand.tmp 27) (Operand.tmp 31) 52 rfl B 53 i0 _ 1 24 Tryz.underlying52 hi hz0 hz1 hz2 rfl (by decide) _ _ _ rfl hown ⟨q2, 0, none⟩ 1 1 [.slice A1 xl.length c1] rfl rfl ?a1 ?a2 (by decide) ?a3 ?a4 ?a5 w.heap.size rfl ?a6
    case a1 =>
      intro j u hj
      match j, hj with
      | 0, hj => simp only [List.getElem?_cons_zero, Option.some.injEq] at hj; subst hj; exact k2
    case a2 => intro u hu; simp only [List.mem_cons, List.not_mem_nil, or_false] at hu; subst hu; rfl
    case a3 => unfold maxLen; have := HC.mf; omega
    case a4 => have := HC.mf; omega
    case a5 => exact Nat.le_trans HC.le hB.size
    intro g cap wz hrow hgr hat hlt
    refine hK.out _ _ trivial (fun _ => ?_)
    clear hK K
    try simp only [Act.put, c5op6, sA, sZ, sS]
    refine wpAnyH_take (i := 7) (oi := c5op7) (v := ?t1v) rfl (by kernel_rfl) (by kernel_rfl) (by kernel_rfl) (fun c a w h => hP c _ _ a w h) (Or.inl ⟨by rfl, ?t1y⟩) trivial ?t1r
    case t1y => (intro w hSw; clear hSw; simp only [c5op7]; go_simp; try (with_reducible rfl))
    try simp only [Act.put, c5op7, sA, sZ, sS]
    refine wpAnyH_ready (rs := [8]) (by kernel_rfl) (by simp) ?_
    refine AllReadyH.cons (o := c5op8) rfl (fun K hK => ?_) AllReadyH.nil
    have hne : some ga ≠ (⟨lf, Af, cf⟩ : L (L Int)).v.ownBlock := fun e => HC.off ga e.symm rfl
    have hlw : ga < w.heap.size := Nat.lt_of_lt_of_le HC.lt hB.size
    have a1 : wz.cell? ⟨ga, 1, none⟩ = some (.slice Af lf.length cf) := by rw [World.cell?_of_block (a := ⟨ga, 1, none⟩) (hgr.block ga hlw hne)]; exact HC.a1 w hB
    have af : wz.frozen? ⟨ga, 1, none⟩ = false := by rw [World.frozen?_of_block (a := ⟨ga, 1, none⟩) (hgr.block ga hlw hne)]; exact HC.fr w hB
    simp only [c5op8]
    go_simp
    refine hK.out _ _ trivial (fun _ => ?_)
    clear hK K
    try simp only [sA, sZ, sS]
    refine wpAnyH_done (by kernel_rfl) ?_ _
    exact hQ w wz q1 q2 A1 c1 g cap hB o1 hgr hrow hat hlt
theorem c5_30 (hQ : C5Fin w0 ga B v0 v1 v2 v4 v6 v7 v8 v9 v10 v11 v12 v13 v14 v15 v16 v17 v18 v19 v20 v21 v22 v23 v24 v25 v34 v35 xl xA xc lf Af cf Q) (hP : ∀ c (d : Option Tmp) v a w, Q (.panic c) (a.put d v) w → Q (.panic c) a w) (HC : C5Hyp w0 ga B xl xA xc lf Af cf) (w : World) (q1 : Nat) (A1 : Option Addr) (c1 : Nat) (q2 : Nat) (hB : Below w0.heap.size w0 w) (o1 : OwnL w w0.heap.size 83 ucell ⟨xl, A1, c1⟩) (k2 : w.cell? ⟨q2, 0, none⟩ = some (.slice A1 xl.length c1)) :
    wpAnyH Tryz.prog .any c5ops Q (fun _ => True) 4 #[true, false, true, true, true, true, false, false, false] { tmps := #[v0, v1, v2, .pointer (some ⟨ga, 0, none⟩), v4, .slice xA xl.length xc, v6, v7, v8, v9, v10, v11, v12, v13, v14, v15, v16, v17, v18, v19, v20, v21, v22, v23, v24, v25, .pointer (some ⟨ga, 1, none⟩), v27, .slice xA xl.length xc, .slice (some ⟨q1, 0, none⟩) 1 1, .slice A1 xl.length c1, .slice (some ⟨q2, 0, none⟩) 1 1, v32, v33, v34, v35], defers := [] } w := by
  refine wpAnyH_ready (rs := [1]) (by kernel_rfl) (by simp) ?_
  refine AllReadyH.cons (o := c5op1) rfl (fun K hK => ?_) AllReadyH.nil
  · simp only [c5op1]
    have a1 := HC.a1 w hB
    go_simp
    refine hK.out _ _ trivial (fun _ => ?_)
    clear hK K
    try simp only [sA, sZ, sS]
    exact c5_31 hQ hP HC w q1 A1 c1 q2 hB o1 k2
theorem c5_21 (hQ : C5Fin w0 ga B v0 v1 v2 v4 v6 v7 v8 v9 v10 v11 v12 v13 v14 v15 v16 v17 v18 v19 v20 v21 v22 v23 v24 v25 v34 v35 xl xA xc lf Af cf Q) (hP : ∀ c (d : Option Tmp) v a w, Q (.panic c) (a.put d v) w → Q (.panic c) a w) (HC : C5Hyp w0 ga B xl xA xc lf Af cf) (w : World) (q1 : Nat) (A1 : Option Addr) (c1 : Nat) (hB : Below w0.heap.size w0 w) (o1 : OwnL w w0.heap.size 83 ucell ⟨xl, A1, c1⟩) :
    wpAnyH Tryz.prog .any c5ops Q (fun _ => True) 4 #[true, true, true, true, true, false, false, false, false] { tmps := #[v0, v1, v2, .pointer (some ⟨ga, 0, none⟩), v4, .slice xA xl.length xc, v6, v7, v8, v9, v10, v11, v12, v13, v14, v15, v16, v17, v18, v19, v20, v21, v22, v23, v24, v25, .pointer (some ⟨ga, 1, none⟩), .slice Af lf.length cf, .slice xA xl.length xc, .slice (some ⟨q1, 0, none⟩) 1 1, .slice A1 xl.length c1, v31, v32, v33, v34, v35], defers := [] } w := by
  refine wpAnyH_ready (rs := [5]) (by kernel_rfl) (by simp) ?_
  refine AllReadyH.cons (o := c5op5) rfl (fun K hK => ?_) AllReadyH.nil
  · simp only [c5op5]
    go_simp
    refine hK.out _ _ trivial (fun _ => ?_)
    clear hK K
    try simp only [sA, sZ, sS]
    exact c5_31 hQ hP HC _ q1 A1 c1 w.heap.size (below_step hB (below1 w _)) (o1.below (below1 w _)) ((Blk.new w 53 #[.slice A1 xl.length c1]).cell 0)
theorem c5_20 (hQ : C5Fin w0 ga B v0 v1 v2 v4 v6 v7 v8 v9 v10 v11 v12 v13 v14 v15 v16 v17 v18 v19 v20 v21 v22 v23 v24 v25 v34 v35 xl xA xc lf Af cf Q) (hP : ∀ c (d : Option Tmp) v a w, Q (.panic c) (a.put d v) w → Q (.panic c) a w) (HC : C5Hyp w0 ga B xl xA xc lf Af cf) (w : World) (q1 : Nat) (A1 : Option Addr) (c1 : Nat) (hB : Below w0.heap.size w0 w) (o1 : OwnL w w0.heap.size 83 ucell ⟨xl, A1, c1⟩) :
    wpAnyH Tryz.prog .any c5ops Q (fun _ => True) 5 #[true, false, true, true, true, false, false, false, false] { tmps := #[v0, v1, v2, .pointer (some ⟨ga, 0, none⟩), v4, .slice xA xl.length xc, v6, v7, v8, v9, v10, v11, v12, v13, v14, v15, v16, v17, v18, v19, v20, v21, v22, v23, v24, v25, .pointer (some ⟨ga, 1, none⟩), v27, .slice xA xl.length xc, .slice (some ⟨q1, 0, none⟩) 1 1, .slice A1 xl.length c1, v31, v32, v33, v34, v35], defers := [] } w := by
  refine wpAnyH_ready (rs := [1, 5]) (by kernel_rfl) (by simp) ?_
  refine AllReadyH.cons (o := c5op1) rfl (fun K hK => ?_) (AllReadyH.cons (o := c5op5) rfl (fun K hK => ?_) AllReadyH.nil)
  · simp only [c5op1]
    have a1 := HC.a1 w hB
    go_simp
    refine hK.out _ _ trivial (fun _ => ?_)
    clear hK K
    try simp only [sA, sZ, sS]
    exact c5_21 hQ hP HC w q1 A1 c1 hB o1
  · simp only [c5op5]
    go_simp
    refine hK.out _ _ trivial (fun _ => ?_)
    clear hK K
    try simp only [sA, sZ, sS]
    exact c5_30 hQ hP HC _ q1 A1 c1 w.heap.size (below_step hB (below1 w _)) (o1.below (below1 w _)) ((Blk.new w 53 #[.slice A1 xl.length c1]).cell 0)
theorem c5_11 (hQ : C5Fin w0 ga B v0 v1 v2 v4 v6 v7 v8 v9 v10 v11 v12 v13 v14 v15 v16 v17 v18 v19 v20 v21 v22 v23 v24 v25 v34 v35 xl xA xc lf Af cf Q) (hP : ∀ c (d : Option Tmp) v a w, Q (.panic c) (a.put d v) w → Q (.panic c) a w) (HC : C5Hyp w0 ga B xl xA xc lf Af cf) (w : World) (q1 : Nat) (hB : Below w0.heap.size w0 w) (k1 : w.cell? ⟨q1, 0, none⟩ = some (.slice xA xl.length xc)) :
    wpAnyH Tryz.prog .any c5ops Q (fun _ => True) 5 #[true, true, true, true, false, false, false, false, false] { tmps := #[v0, v1, v2, .pointer (some ⟨ga, 0, none⟩), v4, .slice xA xl.length xc, v6, v7, v8, v9, v10, v11, v12, v13, v14, v15, v16, v17, v18, v19, v20, v21, v22, v23, v24, v25, .pointer (some ⟨ga, 1, none⟩), .slice Af lf.length cf, .slice xA xl.length xc, .slice (some ⟨q1, 0, none⟩) 1 1, v30, v31, v32, v33, v34, v35], defers := [] } w := by
  refine wpAnyH_ready (rs := [4]) (by kernel_rfl) (by simp) ?_
  refine AllReadyH.cons (o := c5op4) rfl (fun K hK => ?_) AllReadyH.nil
  · simp only [c5op4]
    go_simp
    go_at_call 160
    refine (join_u32 ⟨xl, xA, xc⟩ q1 1 w k1 (HC.lx w hB) HC.mx).mono ?_
    rintro e w1 ⟨A1, c1, rfl, hown, hb1⟩
    refine hK.out _ _ trivial (fun _ => ?_)
    clear hK K
    try simp only [sA, sZ, sS]
    exact c5_21 hQ hP HC w1 q1 A1 c1 (below_step hB hb1) (hown.lower hB.size)
theorem c5_10 (hQ : C5Fin w0 ga B v0 v1 v2 v4 v6 v7 v8 v9 v10 v11 v12 v13 v14 v15 v16 v17 v18 v19 v20 v21 v22 v23 v24 v25 v34 v35 xl xA xc lf Af cf Q) (hP : ∀ c (d : Option Tmp) v a w, Q (.panic c) (a.put d v) w → Q (.panic c) a w) (HC : C5Hyp w0 ga B xl xA xc lf Af cf) (w : World) (q1 : Nat) (hB : Below w0.heap.size w0 w) (k1 : w.cell? ⟨q1, 0, none⟩ = some (.slice xA xl.length xc)) :
    wpAnyH Tryz.prog .any c5ops Q (fun _ => True) 6 #[true, false, true, true, false, false, false, false, false] { tmps := #[v0, v1, v2, .pointer (some ⟨ga, 0, none⟩), v4, .slice xA xl.length xc, v6, v7, v8, v9, v10, v11, v12, v13, v14, v15, v16, v17, v18, v19, v20, v21, v22, v23, v24, v25, .pointer (some ⟨ga, 1, none⟩), v27, .slice xA xl.length xc, .slice (some ⟨q1, 0, none⟩) 1 1, v30, v31, v32, v33, v34, v35], defers := [] } w := by
  refine wpAnyH_ready (rs := [1, 4]) (by kernel_rfl) (by simp) ?_
  refine AllReadyH.cons (o := c5op1) rfl (fun K hK => ?_) (AllReadyH.cons (o := c5op4) rfl (fun K hK => ?_) AllReadyH.nil)
  · simp only [c5op1]
    have a1 := HC.a1 w hB
    go_simp
    refine hK.out _ _ trivial (fun _ => ?_)
    clear hK K
    try simp only [sA, sZ, sS]
    exact c5_11 hQ hP HC w q1 hB k1
  · simp only [c5op4]
    go_simp
    go_at_call 160
    refine (join_u32 ⟨xl, xA, xc⟩ q1 1 w k1 (HC.lx w hB) HC.mx).mono ?_
    rintro e w1 ⟨A1, c1, rfl, hown, hb1⟩
    refine hK.out _ _ trivial (fun _ => ?_)
    clear hK K
    try simp only [sA, sZ, sS]
    exact c5_20 hQ hP HC w1 q1 A1 c1 (below_step hB hb1) (hown.lower hB.size)
theorem c5_01 (hQ : C5Fin w0 ga B v0 v1 v2 v4 v6 v7 v8 v9 v10 v11 v12 v13 v14 v15 v16 v17 v18 v19 v20 v21 v22 v23 v24 v25 v34 v35 xl xA xc lf Af cf Q) (hP : ∀ c (d : Option Tmp) v a w, Q (.panic c) (a.put d v) w → Q (.panic c) a w) (HC : C5Hyp w0 ga B xl xA xc lf Af cf) (w : World) (hB : Below w0.heap.size w0 w) :
    wpAnyH Tryz.prog .any c5ops Q (fun _ => True) 6 #[true, true, true, false, false, false, false, false, false] { tmps := #[v0, v1, v2, .pointer (some ⟨ga, 0, none⟩), v4, .slice xA xl.length xc, v6, v7, v8, v9, v10, v11, v12, v13, v14, v15, v16, v17, v18, v19, v20, v21, v22, v23, v24, v25, .pointer (some ⟨ga, 1, none⟩), .slice Af lf.length cf, .slice xA xl.length xc, v29, v30, v31, v32, v33, v34, v35], defers := [] } w := by
  refine wpAnyH_ready (rs := [3]) (by kernel_rfl) (by simp) ?_
  refine AllReadyH.cons (o := c5op3) rfl (fun K hK => ?_) AllReadyH.nil
  · simp only [c5op3]
    go_simp
    refine hK.out _ _ trivial (fun _ => ?_)
    clear hK K
    try simp only [sA, sZ, sS]
    exact c5_11 hQ hP HC _ w.heap.size (below_step hB (below1 w _)) ((Blk.new w 53 #[.slice xA xl.length xc]).cell 0)
theorem c5_00 (hQ : C5Fin w0 ga B v0 v1 v2 v4 v6 v7 v8 v9 v10 v11 v12 v13 v14 v15 v16 v17 v18 v19 v20 v21 v22 v23 v24 v25 v34 v35 xl xA xc lf Af cf Q) (hP : ∀ c (d : Option Tmp) v a w, Q (.panic c) (a.put d v) w → Q (.panic c) a w) (HC : C5Hyp w0 ga B xl xA xc lf Af cf) (w : World) (hB : Below w0.heap.size w0 w) :
    wpAnyH Tryz.prog .any c5ops Q (fun _ => True) 7 #[true, false, true, false, false, false, false, false, false] { tmps := #[v0, v1, v2, .pointer (some ⟨ga, 0, none⟩), v4, .slice xA xl.length xc, v6, v7, v8, v9, v10, v11, v12, v13, v14, v15, v16, v17, v18, v19, v20, v21, v22, v23, v24, v25, .pointer (some ⟨ga, 1, none⟩), v27, .slice xA xl.length xc, v29, v30, v31, v32, v33, v34, v35], defers := [] } w := by
  refine wpAnyH_ready (rs := [1, 3]) (by kernel_rfl) (by simp) ?_
  refine AllReadyH.cons (o := c5op1) rfl (fun K hK => ?_) (AllReadyH.cons (o := c5op3) rfl (fun K hK => ?_) AllReadyH.nil)
  · simp only [c5op1]
    have a1 := HC.a1 w hB
    go_simp
    refine hK.out _ _ trivial (fun _ => ?_)
    clear hK K
    try simp only [sA, sZ, sS]
    exact c5_01 hQ hP HC w  hB
  · simp only [c5op3]
    go_simp
    refine hK.out _ _ trivial (fun _ => ?_)
    clear hK K
    try simp only [sA, sZ, sS]
    exact c5_10 hQ hP HC _ w.heap.size (below_step hB (below1 w _)) ((Blk.new w 53 #[.slice xA xl.length xc]).cell 0)
theorem c5_region (HC : C5Hyp w0 ga B xl xA xc lf Af cf) (hP : ∀ c (d : Option Tmp) v a w, Q (.panic c) (a.put d v) w → Q (.panic c) a w) (hQ : C5Fin w0 ga B v0 v1 v2 v4 v6 v7 v8 v9 v10 v11 v12 v13 v14 v15 v16 v17 v18 v19 v20 v21 v22 v23 v24 v25 v34 v35 xl xA xc lf Af cf Q) :
    (Code.region 5 c5ops true).wp Tryz.prog Q { tmps := #[v0, v1, v2, .pointer (some ⟨ga, 0, none⟩), v4, .slice xA xl.length xc, v6, v7, v8, v9, v10, v11, v12, v13, v14, v15, v16, v17, v18, v19, v20, v21, v22, v23, v24, v25, v26, v27, v28, v29, v30, v31, v32, v33, v34, v35], defers := [] } w0 := by
  refine wp_region_held_drew (S := (fun _ => True)) (by kernel_rfl) trivial (fun hHeld => ?_)
  refine wpAnyH_take (i := 0) (oi := c5op0) (v := ?t2v) rfl (by kernel_rfl) (by kernel_rfl) (by kernel_rfl) (fun c a w h => hP c _ _ a w h) (Or.inl ⟨by rfl, ?t2y⟩) trivial ?t2r
  case t2y => (intro w hSw; clear hSw; simp only [c5op0]; go_simp; try (with_reducible rfl))
  try simp only [Act.put, c5op0, sA, sZ, sS]
  refine wpAnyH_take (i := 2) (oi := c5op2) (v := ?t3v) rfl (by kernel_rfl) (by kernel_rfl) (by kernel_rfl) (fun c a w h => hP c _ _ a w h) (Or.inl ⟨by rfl, ?t3y⟩) trivial ?t3r
  case t3y => (intro w hSw; clear hSw; simp only [c5op2]; go_simp; try (with_reducible rfl))
  try simp only [Act.put, c5op2, sA, sZ, sS]
  exact c5_00 hQ hP HC _ (below_drew (Below.refl _ _))
end
structure EApt (e : EnvD) : Prop where
  vm : AptB e.valid.v e.metaV.v
  vp : AptB e.valid.v e.payload.v
  mp : AptB e.metaV.v e.payload.v
  vf : AptB e.valid.v e.fields.v
  mf : AptB e.metaV.v e.fields.v
  pf : AptB e.payload.v e.fields.v
  xv : ∀ x ∈ e.fields.l, AptB x.v e.valid.v
  xm : ∀ x ∈ e.fields.l, AptB x.v e.metaV.v
  xp : ∀ x ∈ e.fields.l, AptB x.v e.payload.v
  xf : ∀ x ∈ e.fields.l, AptB x.v e.fields.v
  xx : e.fields.l.Pairwise fun x y => AptB x.v y.v
structure EnvMine (w : World) (B : Nat) (e : EnvD) : Prop where
  valid : OwnL w B 4 bcell e.valid
  fields : OwnL w B 53 lcell e.fields
  each : ∀ x ∈ e.fields.l, OwnL w B 83 ucell x
  metaV : OwnL w B 83 ucell e.metaV
  payload : OwnL w B 5 ycell e.payload
  apt : EApt e
theorem EnvMine.ok {w : World} {B : Nat} {e : EnvD} (o : EnvMine w B e) : EnvOk w e :=
  ⟨o.valid.ok (fun _ => rfl), o.fields.ok (fun _ => rfl), fun x hx => (o.each x hx).ok (fun _ => rfl), o.metaV.ok (fun _ => rfl), o.payload.ok (fun _ => rfl)⟩
theorem EnvMine.below {w w' : World} {B : Nat} {e : EnvD} (o : EnvMine w B e) (hb : Below w.heap.size w w') : EnvMine w' B e :=
  ⟨o.valid.below hb, o.fields.below hb, fun x hx => (o.each x hx).below hb, o.metaV.below hb, o.payload.below hb, o.apt⟩
theorem EnvMine.lower {w : World} {B B' : Nat} {e : EnvD} (o : EnvMine w B e) (h : B' ≤ B) : EnvMine w B' e :=
  ⟨o.valid.lower h, o.fields.lower h, fun x hx => (o.each x hx).lower h, o.metaV.lower h, o.payload.lower h, o.apt⟩
structure EnvBlk (w : World) (B ga : Nat) (e : EnvD) : Prop where
  env : EnvMine w B e
  blk : Blk w ga 56 (envCells e)
  ov : OffB ga e.valid.v
  om : OffB ga e.metaV.v
  op : OffB ga e.payload.v
  of : OffB ga e.fields.v
  ox : ∀ x ∈ e.fields.l, OffB ga x.v
theorem EnvBlk.below {w w' : World} {B ga : Nat} {e : EnvD} (o : EnvBlk w B ga e) (hb : Below w.heap.size w w') : EnvBlk w' B ga e :=
  ⟨o.env.below hb, o.blk.below hb o.blk.lt, o.ov, o.om, o.op, o.of, o.ox⟩
theorem OffB.ne {ga : Nat} {x : Value} (h : OffB ga x) : x.ownBlock ≠ some ga := fun e => h ga e rfl
theorem own_some {α : Type} (l : List α) (g c : Nat) : (⟨l, some ⟨g, 0, none⟩, c⟩ : L α).v.ownBlock = some g := rfl
theorem EnvBlk.more {w0 wm wz : World} {B ga : Nat} {e : EnvD} {xl : List Int} {A1 : Option Addr} {c1 g cap : Nat} (h : EnvBlk w0 B ga e) (hB : B ≤ w0.heap.size) (hb : Below w0.heap.size w0 wm) (o1 : OwnL wm w0.heap.size 83 ucell ⟨xl, A1, c1⟩)
    (hg : wm.grownBy wz e.fields.v.ownBlock) (hrow : wz.ownsRow B 53 1 (.slice (some ⟨g, 0, none⟩) (e.fields.l.length + 1) cap) (e.fields.l.length + 1) (e.fields.l.flatMap lcell ++ [.slice A1 xl.length c1])) (hat : e.fields.v.ownBlock = some g ∨ g = wm.heap.size) :
    EnvBlk (wz.setCell ⟨ga, 1, none⟩ (.slice (some ⟨g, 0, none⟩) (e.fields.l.length + 1) cap)) B ga ⟨e.valid, ⟨e.fields.l ++ [⟨xl, A1, c1⟩], some ⟨g, 0, none⟩, cap⟩, e.metaV, e.payload⟩ := by
  obtain ⟨⟨hv, hf, hx, hm, hp, ⟨vm, vp, mp, vf, mf, pf, xv, xm, xp, xf, xx⟩⟩, hk, ov, om, op, of, ox⟩ := h
  have hle := hb.size
  have hlv := fun b e => (hv.lt b e).2
  have hlm := fun b e => (hm.lt b e).2
  have hlp := fun b e => (hp.lt b e).2
  have hlf := fun b e => (hf.lt b e).2
  have hlx := fun x hm b e => ((hx x hm).lt b e).2
  have hl1 := fun b e => o1.lt b e
  have hga := hk.lt
  have hgn : ∀ y : Value, AptB y e.fields.v → (∀ b, y.ownBlock = some b → b < w0.heap.size) → ∀ b, y.ownBlock = some b → b ≠ g := fun y ha hl b hb' e2 => by
    rcases hat with h1 | h1
    · exact ha b hb' (by rw [h1, e2])
    · have := hl b hb'; omega
  have hg1 : ∀ b, (⟨xl, A1, c1⟩ : L Int).v.ownBlock = some b → b ≠ g := fun b e e2 => by
    rcases hat with h1 | h1
    · have a := hl1 b e; have c := hlf g h1; omega
    · have a := hl1 b e; omega
  have hgga : g ≠ ga := fun e => by
    rcases hat with h1 | h1
    · exact of g h1 e
    · omega
  have old : ∀ {t : TypeId} {α : Type} {cells : α → List Value} {y : L α}, OwnL w0 B t cells y → AptB y.v e.fields.v → OffB ga y.v → OwnL (wz.setCell ⟨ga, 1, none⟩ (.slice (some ⟨g, 0, none⟩) (e.fields.l.length + 1) cap)) B t cells y := fun {t α cells y} ho ha hoff =>
    ((ho.below hb).grown hg (fun b e1 e2 => ha b e1 e2)).far _ hoff.ne
  have o1' : OwnL (wz.setCell ⟨ga, 1, none⟩ (.slice (some ⟨g, 0, none⟩) (e.fields.l.length + 1) cap)) B 83 ucell ⟨xl, A1, c1⟩ :=
    ((o1.lower hB).grown hg (fun b e1 e2 => by have a := hl1 b e1; have c := hlf b e2; omega)).far _ (fun e1 => by have a := hl1 ga e1; omega)
  have hf' : OwnL wz B 53 lcell ⟨e.fields.l ++ [⟨xl, A1, c1⟩], some ⟨g, 0, none⟩, cap⟩ := by
    unfold OwnL
    simp only [L.v, List.length_append, List.length_cons, List.length_nil, List.flatMap_append]
    exact hrow
  refine ⟨⟨old hv vf ov, hf'.far _ (by rw [own_some]; exact fun e => hgga (by injection e)), ?_, old hm mf om, old hp pf op, ⟨vm, vp, mp, ?_, ?_, ?_, ?_, ?_, ?_, ?_, ?_⟩⟩, ?_, ov, om, op, ?_, ?_⟩
  · intro x hx'
    rcases List.mem_append.1 hx' with h1 | h1
    · exact old (hx x h1) (xf x h1) (ox x h1)
    · rw [List.mem_singleton] at h1; subst h1; exact o1'
  · intro b e1 e2; rw [own_some] at e2; injection e2 with e2; exact hgn _ vf hlv b e1 e2.symm
  · intro b e1 e2; rw [own_some] at e2; injection e2 with e2; exact hgn _ mf hlm b e1 e2.symm
  · intro b e1 e2; rw [own_some] at e2; injection e2 with e2; exact hgn _ pf hlp b e1 e2.symm
  · intro x hx'
    rcases List.mem_append.1 hx' with h1 | h1
    · exact xv x h1
    · rw [List.mem_singleton] at h1; subst h1; intro b e1 e2; have a := hl1 b e1; have c := hlv b e2; omega
  · intro x hx'
    rcases List.mem_append.1 hx' with h1 | h1
    · exact xm x h1
    · rw [List.mem_singleton] at h1; subst h1; intro b e1 e2; have a := hl1 b e1; have c := hlm b e2; omega
  · intro x hx'
    rcases List.mem_append.1 hx' with h1 | h1
    · exact xp x h1
    · rw [List.mem_singleton] at h1; subst h1; intro b e1 e2; have a := hl1 b e1; have c := hlp b e2; omega
  · intro x hx'
    rcases List.mem_append.1 hx' with h1 | h1
    · intro b e1 e2; rw [own_some] at e2; injection e2 with e2; exact hgn _ (xf x h1) (hlx x h1) b e1 e2.symm
    · rw [List.mem_singleton] at h1; subst h1; intro b e1 e2; rw [own_some] at e2; injection e2 with e2; exact hg1 b e1 e2.symm
  · refine List.pairwise_append.2 ⟨xx, List.pairwise_singleton _ _, fun x h1 y h2 => ?_⟩
    rw [List.mem_singleton] at h2; subst h2
    intro b e1 e2; have a := hl1 b e2; have c := hlx x h1 b e1; omega
  · have h1 := ((hk.below hb hk.lt).grown hg (fun e => of ga e.symm rfl)).set_ 1 (.slice (some ⟨g, 0, none⟩) (e.fields.l.length + 1) cap)
    have e2 : (envCells e).setIfInBounds 1 (.slice (some ⟨g, 0, none⟩) (e.fields.l.length + 1) cap) = envCells ⟨e.valid, ⟨e.fields.l ++ [⟨xl, A1, c1⟩], some ⟨g, 0, none⟩, cap⟩, e.metaV, e.payload⟩ := by simp [envCells]
    rw [e2] at h1
    exact h1
  · intro b e1 e2; rw [own_some] at e1; injection e1 with e1; omega
  · intro x hx'
    rcases List.mem_append.1 hx' with h1 | h1
    · exact ox x h1
    · rw [List.mem_singleton] at h1; subst h1; intro b e1 e2; have a := hl1 b e1; omega
theorem envClone_any (e : EnvD) (w : World) (o : EnvOk w e) (hf : EnvFit e.bare) :
    Calls Tryz.prog 108 #[.agg (envCells e)] w fun r w' => ∃ e', r = .returned (.agg (envCells e')) ∧ e'.bare = e.bare ∧ EnvMine w' w.heap.size e' ∧ Below w.heap.size w w' := by
  obtain ⟨W, hW⟩ : ∃ W, W = (w.alloc (.cells (envCells e) 56)).alloc (.cells #[.slice none 0 0, .slice none 0 0, .slice none 0 0, .slice none 0 0] 56) := ⟨_, rfl⟩
  have hw : Below w.heap.size w W := by rw [hW]; exact below2 _ _ _
  have HW := hi_ hw
  have HSz : Hid (W.heap.size = w.heap.size + 1 + 1) := hi_ (by rw [hW]; simp)
  have HP0 : Hid (Blk W w.heap.size 56 (envCells e)) := hi_ (by rw [hW]; exact (Blk.new _ _ _).alloc _)
  have HP1 : Hid (Blk W (w.heap.size + 1) 56 #[.slice none 0 0, .slice none 0 0, .slice none 0 0, .slice none 0 0]) := hi_ (by rw [hW]; simpa using Blk.new (w.alloc (.cells (envCells e) 56)) 56 #[.slice none 0 0, .slice none 0 0, .slice none 0 0, .slice none 0 0])
  have HO := hi_ (o.below hw)
  have HF := hi_ hf
  obtain ⟨⟨vl, vA, vc⟩, ⟨fl, fA, fc⟩, ⟨ml, mA, mc⟩, ⟨pl, pA, pc⟩⟩ := e
  have hfl : fl.length ≤ 1000 := by have := hf.fields; simpa [EnvD.bare] using this
  have HC : Hid (ClHyp W w.heap.size (.agg (envCells ⟨⟨vl, vA, vc⟩, ⟨fl, fA, fc⟩, ⟨ml, mA, mc⟩, ⟨pl, pA, pc⟩⟩)) (.pointer (some ⟨w.heap.size + 1, 0, none⟩)) vl vA vc ml mA mc pl pA pc) := Lib.hid
    ⟨fun u h => (HP0.out.below h HP0.out.lt).cell 0, fun u h => (HP0.out.below h HP0.out.lt).cell 2, fun u h => (HP0.out.below h HP0.out.lt).cell 3, fun u h => HO.out.valid.below h, fun u h => HO.out.metaV.below h, fun u h => HO.out.payload.below h, hf.valid, hf.metaV, hf.payload⟩
  have s1 := fun u (h : Below W.heap.size W u) => (HP0.out.below h HP0.out.lt).cell 1
  simp only [envCells, List.getElem?_toArray, List.getElem?_cons_zero, List.getElem?_cons_succ] at s1
  have HS1 := hi_ s1
  clear o hf hw s1
  go_enter Tryz.func108, Tryz.ntmps108
  go_upto_region 1 with fail
  rw [← hW]
  clear hW
  refine cl_region HC.out (fun _ d _ _ _ h => by cases d <;> exact h) ?_
  rintro w1 q1 q2 q3 A1 c1 A2 c2 A3 c3 ga hB o1 o2 o3 e12 e13 e23 ⟨hbk, hga⟩ f1 f2 f3
  have HI : Hid (EnvBlk w1 W.heap.size ga ⟨⟨vl, A1, c1⟩, ⟨[], none, 0⟩, ⟨ml, A2, c2⟩, ⟨pl, A3, c3⟩⟩) := Lib.hid
    ⟨⟨o1, World.ownsRow_nil _ _ _ _, fun x h => by (cases h), o2, o3, ⟨e12, e13, e23, fun b _ h => (by cases h), fun b _ h => (by cases h), fun b _ h => (by cases h), fun x h => (by cases h), fun x h => (by cases h), fun x h => (by cases h), fun x h => (by cases h), .nil⟩⟩, hbk, f1, f2, f3, fun b h => (by cases h), fun x h => (by cases h)⟩
  have HB1 := hi_ hB
  have HG0 : Hid (W.heap.size ≤ ga) := hi_ hga
  have s1 := HS1.out w1 hB
  clear hB o1 o2 o3 e12 e13 e23 hbk hga f1 f2 f3 HC
  go_wp2
  clear s1
  go_loopw [5, 22] (fun _ iv wr => ∃ (k : Nat) (lf : List (L Int)) (Af : Option Addr) (cf : Nat), k ≤ fl.length ∧ iv = .int .i64 k ∧ Hid (lf.map L.l = (fl.take k).map L.l) ∧ Hid (EnvBlk wr W.heap.size ga ⟨⟨vl, A1, c1⟩, ⟨lf, Af, cf⟩, ⟨ml, A2, c2⟩, ⟨pl, A3, c3⟩⟩) ∧ Below W.heap.size W wr) (fun _ i _ => fl.length - (intOf i).toNat)
  case atStart => exact ⟨0, [], none, 0, Nat.zero_le _, rfl, hi_ rfl, HI, HB1.out⟩
  case round =>
  obtain ⟨k, lf, Af, cf, hk, rfl, HM, HK, HB⟩ := hrel
  by_cases hlt : k < fl.length
  case neg =>
    have e : k = fl.length := by omega
    have HMf : Hid (lf.map L.l = fl.map L.l) := hi_ (by rw [HM.out, e, List.take_length])
    have k0 : wr.cell? ⟨ga, 0, none⟩ = some (.slice A1 vl.length c1) := HK.out.blk.cell 0
    have k1 : wr.cell? ⟨ga, 1, none⟩ = some (.slice Af lf.length cf) := HK.out.blk.cell 1
    have k2 : wr.cell? ⟨ga, 2, none⟩ = some (.slice A2 ml.length c2) := HK.out.blk.cell 2
    have k3 : wr.cell? ⟨ga, 3, none⟩ = some (.slice A3 pl.length c3) := HK.out.blk.cell 3
    have HZ : Hid (Blk wr (w.heap.size + 1) 56 #[.slice none 0 0, .slice none 0 0, .slice none 0 0, .slice none 0 0]) := hi_ (HP1.out.below HB HP1.out.lt)
    have z0 : wr.cell? ⟨w.heap.size + 1, 0, none⟩ = some (.slice none 0 0) := HZ.out.cell 0
    have z1 : wr.cell? ⟨w.heap.size + 1, 1, none⟩ = some (.slice none 0 0) := HZ.out.cell 1
    have z2 : wr.cell? ⟨w.heap.size + 1, 2, none⟩ = some (.slice none 0 0) := HZ.out.cell 2
    have z3 : wr.cell? ⟨w.heap.size + 1, 3, none⟩ = some (.slice none 0 0) := HZ.out.cell 3
    have zf : ∀ j, wr.frozen? ⟨w.heap.size + 1, j, none⟩ = false := fun j => HZ.out.frozen j
    have HBc := hi_ HB
    clear HB e
    go_wp2
    try rw [Exit.noGoto_ret]
    try simp only [Exit.jump]
    refine bodyPost_ret (v := .agg #[.slice A1 vl.length c1, .slice Af lf.length cf, .slice A2 ml.length c2, .slice A3 pl.length c3]) ?_ rfl ?_
    · refine results_cell_row (fn := Tryz.f108) (p := 2) (ty := 56) rfl _ _ (w.heap.size + 1) 56 #[.slice A1 vl.length c1, .slice Af lf.length cf, .slice A2 ml.length c2, .slice A3 pl.length c3] (0, 0) _ rfl ?_ Tryz.underlying56 rfl (by kernel_rfl)
      exact (((HZ.out.set_ 0 _).set_ 1 _).set_ 2 _).set_ 3 _
    · have hsz := HSz.out
      have hle : w.heap.size ≤ w.heap.size + 1 := by omega
      have hput : ∀ {t : TypeId} {α : Type} {cells : α → List Value} {y : L α} (a b c d : Value), OwnL wr W.heap.size t cells y → OwnL ((((wr.setCell ⟨w.heap.size + 1, 0, none⟩ a).setCell ⟨w.heap.size + 1, 1, none⟩ b).setCell ⟨w.heap.size + 1, 2, none⟩ c).setCell ⟨w.heap.size + 1, 3, none⟩ d) w.heap.size t cells y := fun {t α cells y} a b c d h => by
        exact (h.four (fun q e1 e2 => by have := (h.lt q e1).1; omega) a b c d).lower (by omega)
      refine ⟨⟨⟨vl, A1, c1⟩, ⟨lf, Af, cf⟩, ⟨ml, A2, c2⟩, ⟨pl, A3, c3⟩⟩, rfl, ?_, ⟨hput _ _ _ _ HK.out.env.valid, hput _ _ _ _ HK.out.env.fields, fun x hx => hput _ _ _ _ (HK.out.env.each x hx), hput _ _ _ _ HK.out.env.metaV, hput _ _ _ _ HK.out.env.payload, HK.out.env.apt⟩, ((((below_step HW.out HBc.out).setCell hle _).setCell hle _).setCell hle _).setCell hle _⟩
      simp only [EnvD.bare, HMf.out]
  obtain ⟨g0, of0, hA, d0⟩ := lcell_atA HO.out.fields.1 hlt
  simp only at hA d0
  have d1 := d0 wr HB
  have HXo := hi_ (fun u (h : Below wr.heap.size wr u) => (HO.out.each fl[k] (List.getElem_mem hlt)).below (below_step HB h))
  have hxl : fl[k].l.length ≤ 1000 := HF.out.each _ (List.mem_map_of_mem (List.getElem_mem hlt))
  have HT : Hid ((fl.take (k + 1)).map L.l = (fl.take k).map L.l ++ [fl[k].l]) := hi_ (by rw [List.take_succ_eq_append_getElem hlt, List.map_append]; rfl)
  subst hA
  clear d0
  generalize fl[k] = x at *
  obtain ⟨xl, xA, xc⟩ := x
  simp only at d1 HXo hxl HT
  have hlf : lf.length = k := by have := congrArg List.length HM.out; simp at this; omega
  have HC5 : Hid (C5Hyp wr ga W.heap.size xl xA xc lf Af cf) := Lib.hid
    ⟨fun u h => (HK.out.blk.below h HK.out.blk.lt).cell 1, HK.out.blk.lt, fun u h => (HK.out.blk.below h HK.out.blk.lt).frozen 1, fun u h => HXo.out u h, fun u h => HK.out.env.fields.below h, HK.out.of, hxl, by omega, HB.size⟩
  have HBr := hi_ HB
  clear HB hlf hxl HXo
  go_upto_region 5 with fail
  clear d1
  refine c5_region HC5.out (fun _ d _ _ _ h => by cases d <;> exact h) ?_
  rintro wm wz r1 r2 B1 b1 g cap hbm o1 hgr hrow hat hlt2
  have HK2 : Hid (EnvBlk _ W.heap.size ga ⟨⟨vl, A1, c1⟩, ⟨lf ++ [⟨xl, B1, b1⟩], some ⟨g, 0, none⟩, cap⟩, ⟨ml, A2, c2⟩, ⟨pl, A3, c3⟩⟩) := hi_ (HK.out.more HBr.out.size hbm o1 hgr hrow hat)
  have HM2 : Hid ((lf ++ [(⟨xl, B1, b1⟩ : L Int)]).map L.l = (fl.take (k + 1)).map L.l) := hi_ (by rw [HT.out, List.map_append, HM.out]; rfl)
  have HBz : Hid (Below W.heap.size W (wz.setCell ⟨ga, 1, none⟩ (.slice (some ⟨g, 0, none⟩) (lf.length + 1) cap))) := hi_ (by
    have h1 := (below_step HBr.out hbm).grown hgr (below_step HBr.out hbm).size (fun j hj => (HK.out.env.fields.lt j hj).1)
    have h2 : W.heap.size ≤ ga := by have := HG0.out; omega
    exact h1.setCell (by exact h2) _)
  clear hbm o1 hgr hrow hat hlt2 HK HM HT HC5
  go_wp2
  go_roundw
  case rel => exact ⟨k + 1, _, _, _, by omega, by go_num, HM2, HK2, HBz.out⟩
  case measure => simp [intOf]; omega
theorem setE_none {p : ProgD} {e : EnvD} {h : Int} {f : Nat} {v : Int} (hb : elemB e h f = false ∨ widthAt p h f = 0) : setE p e.bare h f v = e.bare := by
  unfold setE
  by_cases hw : widthAt p h f = 0
  · rw [if_pos (.inl hw)]
  have hb : elemB e h f = false := hb.resolve_right hw
  rw [if_neg (by omega)]
  unfold elemB elemL at hb
  by_cases h1 : h = -1
  · subst h1
    simp only [if_true, decide_true, Bool.true_or, Bool.true_and] at hb ⊢
    have hl : e.metaV.l.length ≤ f := by
      have := hb; simp only [Bool.and_eq_false_iff, decide_eq_false_iff_not] at this; omega
    rw [List.set_eq_of_length_le (by show e.bare.metaV.length ≤ _; simpa [EnvD.bare] using hl)]
  · rw [if_neg h1]
    by_cases h2 : h < 0
    · rw [if_pos h2]
    · rw [if_neg h2]
      by_cases h3 : e.bare.valid.getD h.toNat false = true
      · rw [if_pos h3]
        have e1 : atB e.valid h = true := by rw [atB, if_neg h2, ← List.getD_eq_getElem?_getD]; exact h3
        simp only [h1, decide_false, Bool.false_or, if_false, e1, Bool.true_and] at hb
        have hl : (atU e.fields h).l.length ≤ f := by
          have := hb; simp only [Bool.and_eq_false_iff, decide_eq_false_iff_not] at this; omega
        have e2 : (atU e.fields h).l = e.bare.fields.getD h.toNat [] := by
          rw [atU, if_neg h2, List.getD_eq_getElem?_getD]
          show _ = ((e.fields.l.map L.l)[h.toNat]?).getD []
          rw [List.getElem?_map]
          cases e.fields.l[h.toNat]? <;> rfl
        rw [e2] at hl
        rw [Int.toNat_natCast, List.set_eq_of_length_le hl]
        have e3 : e.bare.fields.set h.toNat (e.bare.fields.getD h.toNat []) = e.bare.fields := by
          refine List.ext_getElem? fun i => ?_
          by_cases hi : i = h.toNat
          · subst hi
            rw [List.getElem?_set_self']
            rw [List.getD_eq_getElem?_getD]
            cases e.bare.fields[h.toNat]? <;> rfl
          · rw [List.getElem?_set_ne (by omega)]
        rw [e3]
      · rw [if_neg h3]
def setD (e : EnvD) (h : Int) (f : Nat) (x : Int) : EnvD :=
  if h = -1 then ⟨e.valid, e.fields, ⟨e.metaV.l.set f x, e.metaV.A, e.metaV.c⟩, e.payload⟩
  else ⟨e.valid, ⟨e.fields.l.set h.toNat ⟨(atU e.fields h).l.set f x, (atU e.fields h).A, (atU e.fields h).c⟩, e.fields.A, e.fields.c⟩, e.metaV, e.payload⟩
theorem elem_true {e : EnvD} {h : Int} {f : Nat} (hb : elemB e h f = true) : f < (elemL e h).l.length ∧ (h ≠ -1 → atB e.valid h = true ∧ 0 ≤ h ∧ h.toNat < e.fields.l.length ∧ ∀ hk : h.toNat < e.fields.l.length, atU e.fields h = e.fields.l[h.toNat]) := by
  unfold elemB at hb
  simp only [Bool.and_eq_true, Bool.or_eq_true, decide_eq_true_eq] at hb
  obtain ⟨h1, _, h3⟩ := hb
  refine ⟨by omega, fun hne => ?_⟩
  have h4 := h1.resolve_left hne
  have h5 : 0 ≤ h := by
    rcases Int.lt_or_le h 0 with h6 | h6
    · rw [atB, if_pos h6] at h4; cases h4
    · exact h6
  have h7 : ∀ hk : h.toNat < e.fields.l.length, atU e.fields h = e.fields.l[h.toNat] := fun hk => by rw [atU, if_neg (by omega)]; simp [hk]
  refine ⟨h4, h5, ?_, h7⟩
  rw [elemL, if_neg hne, atU, if_neg (by omega)] at h3
  rcases Nat.lt_or_ge h.toNat e.fields.l.length with h6 | h6
  · exact h6
  · rw [List.getElem?_eq_none h6] at h3; simp at h3; omega
theorem setE_some {p : ProgD} {e : EnvD} {h : Int} {f : Nat} {v : Int} (hb : elemB e h f = true) (hw : widthAt p h f ≠ 0) : (setD e h f (bits .and .u32 v (maskM (widthAt p h f)))).bare = setE p e.bare h f v := by
  obtain ⟨h1, h2⟩ := elem_true hb
  have hn : ¬ (widthAt p h f = 0 ∨ (f : Int) < 0) := by omega
  by_cases h3 : h = -1
  · unfold setD
    rw [if_pos h3]
    unfold setE
    rw [if_neg hn, if_pos h3]
    rfl
  · unfold setD
    rw [if_neg h3]
    unfold setE
    rw [if_neg hn, if_neg h3]
    obtain ⟨h4, h5, h6, h7⟩ := h2 h3
    rw [if_neg (show ¬ h < 0 by omega)]
    have e1 : e.bare.valid.getD h.toNat false = true := by
      rw [atB, if_neg (by omega), ← List.getD_eq_getElem?_getD] at h4; exact h4
    rw [if_pos e1]
    have e2 : (atU e.fields h).l = e.bare.fields.getD h.toNat [] := by
      rw [h7 h6, List.getD_eq_getElem?_getD]
      show _ = ((e.fields.l.map L.l)[h.toNat]?).getD []
      simp [h6]
    rw [← e2]
    show EnvP.mk _ _ _ _ = _
    simp only [List.map_set, Int.toNat_natCast]
    rfl
theorem EnvMine.put {w : World} {B : Nat} {e : EnvD} {h : Int} {f gl : Nat} (o : EnvMine w B e) (hb : elemB e h f = true) (hA : (elemL e h).A = some ⟨gl, 0, none⟩) (x : Int) : EnvMine (w.setCell ⟨gl, f, none⟩ (.int .u32 x)) B (setD e h f x) := by
  obtain ⟨h1, h2⟩ := elem_true hb
  obtain ⟨hv, hf, hx, hm, hp, ⟨vm, vp, mp, vf, mf, pf, xv, xm, xp, xf, xx⟩⟩ := o
  unfold setD
  by_cases h3 : h = -1
  · rw [if_pos h3]
    rw [elemL, if_pos h3] at hA
    have hg : e.metaV.v.ownBlock = some gl := by rw [L.v, hA]; rfl
    have far : ∀ {t : TypeId} {α : Type} {cells : α → List Value} {y : L α}, OwnL w B t cells y → AptB y.v e.metaV.v → OwnL (w.setCell ⟨gl, f, none⟩ (.int .u32 x)) B t cells y := fun {t α cells y} ho ha => ho.far _ (fun e1 => ha gl e1 hg)
    have hv2 : ∀ y : Value, AptB y e.metaV.v → AptB y (⟨e.metaV.l.set f x, e.metaV.A, e.metaV.c⟩ : L Int).v := fun y ha b e1 e2 => ha b e1 (by rw [← e2]; simp only [L.v, hA]; rfl)
    refine ⟨far hv vm, far hf (AptB.symm mf), fun y hy => far (hx y hy) (xm y hy), ?_, far hp (AptB.symm mp), ⟨hv2 _ vm, vp, AptB.symm (hv2 _ (AptB.symm mp)), vf, AptB.symm (hv2 _ (AptB.symm mf)), pf, xv, fun y hy => hv2 _ (xm y hy), xp, xf, xx⟩⟩
    have h4 := hm
    rcases hmv : e.metaV with ⟨ml, mA, mc⟩
    rw [hmv] at h4 hA
    simp only at hA ⊢
    subst hA
    exact OwnL.put (fun n => .int .u32 n) (fun _ => rfl) h4 f x
  · rw [if_neg h3]
    obtain ⟨_, h5, h6, h7⟩ := h2 h3
    have h8 := h7 h6
    rw [elemL, if_neg h3, h8] at hA
    rw [h8]
    generalize hn : h.toNat = n at *
    have hmem := List.getElem_mem h6
    have hg : e.fields.l[n].v.ownBlock = some gl := by rw [L.v, hA]; rfl
    have far : ∀ {t : TypeId} {α : Type} {cells : α → List Value} {y : L α}, OwnL w B t cells y → AptB e.fields.l[n].v y.v → OwnL (w.setCell ⟨gl, f, none⟩ (.int .u32 x)) B t cells y := fun {t α cells y} ho ha => ho.far _ (fun e1 => ha gl hg e1)
    obtain ⟨x', hx'⟩ : ∃ x' : L Int, x' = ⟨e.fields.l[n].l.set f x, e.fields.l[n].A, e.fields.l[n].c⟩ := ⟨_, rfl⟩
    have hxv : x'.v = e.fields.l[n].v := by rw [hx']; simp [L.v]
    have hput : OwnL (w.setCell ⟨gl, f, none⟩ (.int .u32 x)) B 83 ucell x' := by
      have h9 := hx _ hmem
      rw [hx']
      generalize e.fields.l[n] = y at h9 hA
      obtain ⟨yl, yA, yc⟩ := y
      simp only at hA ⊢
      subst hA
      exact OwnL.put (fun n => .int .u32 n) (fun _ => rfl) h9 f x
    rw [← hx']
    have hset : ∀ y ∈ e.fields.l.set n x', y = x' ∨ ∃ j, ∃ hj : j < e.fields.l.length, j ≠ n ∧ y = e.fields.l[j] := fun y hy => by
      obtain ⟨j, hj, rfl⟩ := List.getElem_of_mem hy
      rw [List.length_set] at hj
      rw [List.getElem_set]
      split
      · exact .inl rfl
      · rename_i h9; exact .inr ⟨j, hj, fun e => h9 e.symm, rfl⟩
    have hap : ∀ j (hj : j < e.fields.l.length), j ≠ n → AptB e.fields.l[n].v e.fields.l[j].v := fun j hj hne => by
      rcases Nat.lt_or_gt_of_ne hne with h9 | h9
      · exact AptB.symm (List.pairwise_iff_getElem.1 xx j n hj h6 h9)
      · exact List.pairwise_iff_getElem.1 xx n j h6 hj h9
    have hfm : (e.fields.l.set n x').flatMap lcell = e.fields.l.flatMap lcell := by
      have e1 : ∀ l : List (L Int), l.flatMap lcell = l.map L.v := fun l => by
        induction l with
        | nil => rfl
        | cons y l ih => rw [List.flatMap_cons, ih]; rfl
      rw [e1, e1, List.map_set]
      refine List.ext_getElem? fun i => ?_
      by_cases hi : i = n
      · subst hi; rw [List.getElem?_set_self (by simpa using h6), List.getElem?_map, List.getElem?_eq_getElem h6, hxv]; rfl
      · rw [List.getElem?_set_ne (by omega)]
    have hfs : OwnL w B 53 lcell ⟨e.fields.l.set n x', e.fields.A, e.fields.c⟩ := by
      have h9 := hf
      unfold OwnL at h9 ⊢
      simp only [L.v, List.length_set] at h9 ⊢
      rw [hfm]
      exact h9
    have hfv : (⟨e.fields.l.set n x', e.fields.A, e.fields.c⟩ : L (L Int)).v = e.fields.v := by simp [L.v]
    have hx2 : ∀ {P : Value → Prop}, (∀ y ∈ e.fields.l, P y.v) → ∀ y ∈ e.fields.l.set n x', P y.v := fun {P} hp y hy => by
      rcases hset y hy with rfl | ⟨j, hj, _, rfl⟩
      · rw [hxv]; exact hp _ hmem
      · exact hp _ (List.getElem_mem hj)
    refine ⟨far hv (xv _ hmem), hfs.far _ (fun e1 => xf _ hmem gl hg (by rw [← hfv]; exact e1)), fun y hy => ?_, far hm (xm _ hmem), far hp (xp _ hmem), ⟨vm, vp, mp, by rw [hfv]; exact vf, by rw [hfv]; exact mf, by rw [hfv]; exact pf, hx2 (P := fun q => AptB q e.valid.v) xv, hx2 (P := fun q => AptB q e.metaV.v) xm, hx2 (P := fun q => AptB q e.payload.v) xp, fun y hy => (by rw [hfv]; exact hx2 (P := fun q => AptB q e.fields.v) xf y hy), ?_⟩⟩
    · rcases hset y hy with rfl | ⟨j, hj, hne, rfl⟩
      · exact hput
      · exact far (hx _ (List.getElem_mem hj)) (hap j hj hne)
    · refine List.pairwise_iff_getElem.2 fun i j hi hj hij => ?_
      rw [List.length_set] at hi hj
      have e1 : ∀ i (hi : i < e.fields.l.length), ((e.fields.l.set n x')[i]'(by rw [List.length_set]; exact hi)).v = e.fields.l[i].v := fun i hi => by
        rw [List.getElem_set]
        split
        · rename_i h9; subst h9; exact hxv
        · rfl
      rw [e1 i hi, e1 j hj]
      exact List.pairwise_iff_getElem.1 xx i j hi hj hij
theorem EnvMine.four {w : World} {B ga : Nat} {e : EnvD} (o : EnvMine w B e) (h : ga < B) (a b c d : Value) : EnvMine ((((w.setCell ⟨ga, 0, none⟩ a).setCell ⟨ga, 1, none⟩ b).setCell ⟨ga, 2, none⟩ c).setCell ⟨ga, 3, none⟩ d) B e := by
  have hh : ∀ {t : TypeId} {α : Type} {cells : α → List Value} {y : L α}, OwnL w B t cells y → OwnL ((((w.setCell ⟨ga, 0, none⟩ a).setCell ⟨ga, 1, none⟩ b).setCell ⟨ga, 2, none⟩ c).setCell ⟨ga, 3, none⟩ d) B t cells y := fun {t α cells y} ho => ho.four (fun q e1 e2 => by have := (ho.lt q e1).1; omega) a b c d
  exact ⟨hh o.valid, hh o.fields, fun x hx => hh (o.each x hx), hh o.metaV, hh o.payload, o.apt⟩
theorem setD_cells (e : EnvD) (h : Int) (f : Nat) (x : Int) : envCells (setD e h f x) = envCells e := by
  unfold setD
  split
  · simp [envCells]
  · simp [envCells]
theorem EnvMine.elem {w : World} {B : Nat} {e : EnvD} {h : Int} {f : Nat} (o : EnvMine w B e) (hb : elemB e h f = true) : OwnL w B 83 ucell (elemL e h) := by
  obtain ⟨_, h2⟩ := elem_true hb
  unfold elemL
  split
  · exact o.metaV
  · rename_i h3
    obtain ⟨_, _, h6, h7⟩ := h2 h3
    rw [h7 h6]
    exact o.each _ (List.getElem_mem h6)
theorem envSet_any (p : ProgD) (e : EnvD) (h : Int) (f : Nat) (v : Int) (w : World) (o : ProgOk w p) (oe : EnvOk w e) (hf : EnvFit e.bare) :
    Calls Tryz.prog 71 #[.agg (progCells p), .agg (envCells e), .agg #[.int .i64 h, .int .i64 f], .int .u32 v] w fun r w' => ∃ e', r = .returned (.agg (envCells e')) ∧ e'.bare = setE p e.bare h f v ∧ EnvMine w' w.heap.size e' ∧ Below w.heap.size w w' := by
  obtain ⟨W, hW⟩ : ∃ W, W = (((w.alloc (.cells (progCells p) 31)).alloc (.cells (envCells e) 56)).alloc (.cells #[.int .i64 h, .int .i64 f] 98)).alloc (.cells #[.slice none 0 0, .slice none 0 0, .slice none 0 0, .slice none 0 0] 56) := ⟨_, rfl⟩
  have hw : Below w.heap.size w W := by rw [hW]; exact below_step (below3 _ _ _ _) (below1 _ _)
  have HW := hi_ hw
  have HSz : Hid (W.heap.size = w.heap.size + 1 + 1 + 1 + 1) := hi_ (by rw [hW]; simp)
  have HP : Hid (Blk W w.heap.size 31 (progCells p)) := hi_ (by rw [hW]; exact (((Blk.new _ _ _).alloc _).alloc _).alloc _)
  have HE : Hid (Blk W (w.heap.size + 1) 56 (envCells e)) := hi_ (by rw [hW]; exact ((by simpa using Blk.new (w.alloc (.cells (progCells p) 31)) 56 (envCells e) : Blk _ (w.heap.size + 1) _ _).alloc _).alloc _)
  have HR : Hid (Blk W (w.heap.size + 1 + 1) 98 #[.int .i64 h, .int .i64 f]) := hi_ (by rw [hW]; exact (by simpa using Blk.new ((w.alloc (.cells (progCells p) 31)).alloc (.cells (envCells e) 56)) 98 #[.int .i64 h, .int .i64 f] : Blk _ (w.heap.size + 1 + 1) _ _).alloc _)
  have HZ : Hid (Blk W (w.heap.size + 1 + 1 + 1) 56 #[.slice none 0 0, .slice none 0 0, .slice none 0 0, .slice none 0 0]) := hi_ (by rw [hW]; simpa using Blk.new (((w.alloc (.cells (progCells p) 31)).alloc (.cells (envCells e) 56)).alloc (.cells #[.int .i64 h, .int .i64 f] 98)) 56 #[.slice none 0 0, .slice none 0 0, .slice none 0 0, .slice none 0 0])
  have HCl := hi_ (fun u (hb : Below W.heap.size W u) => envClone_any e u (oe.below (below_step hw hb)) hf)
  have HWd := hi_ (fun u (hb : Below W.heap.size W u) => widthC_any p h f u (o.below (below_step hw hb)))
  have hp0 := fun w' (h : Below W.heap.size W w') => blk_cells' (n := 9) HP.out w' h
  have hp1 := fun w' (h : Below W.heap.size W w') => blk_cells' (n := 4) HE.out w' h
  have hwr := widthAt_le p h f
  have HSn := hi_ (fun (e' : EnvD) (hb : elemB e' h f = false ∨ widthAt p h f = 0) => setE_none (p := p) (v := v) hb)
  have HSs := hi_ (fun (e' : EnvD) (hb : elemB e' h f = true) (hw : widthAt p h f ≠ 0) => setE_some (p := p) (e := e') (v := v) hb hw)
  clear o oe hf hw
  generalize widthAt p h f = wd at *
  have HB0 := hi_ (Below.refl W.heap.size W)
  go_enter Tryz.func71, Tryz.ntmps71
  go_upto_region 1 with fail
  rw [← hW]
  clear hW
  have hq0 := And.intro (hp0 W HB0.out) (hp1 W HB0.out)
  go_wp2_with fail
  refine (HCl.out W HB0.out).mono ?_
  rintro r w1 ⟨e', rfl, hbe, hm, hb1⟩
  have HM1 := hi_ hm
  have HB1 := hi_ hb1
  have HBe := hi_ hbe
  have HOwn : Hid (∀ gl, (elemL e' h).A = some ⟨gl, 0, none⟩ → elemB e' h f = true → W.heap.size ≤ gl ∧ gl < w1.heap.size) := hi_ (fun gl hA hb => (HM1.out.elem hb).lt gl (by rw [L.v, hA]; rfl))
  clear hbe hm hb1 hq0 HCl
  refine Exists.elim (⟨_, rfl⟩ : ∃ V, V = w1.alloc (.cells (envCells e') 56)) fun V hV => ?_
  have HGV : Hid (Blk V w1.heap.size 56 (envCells e')) := hi_ (by rw [hV]; exact Blk.new _ _ _)
  have HMV : Hid (EnvMine V W.heap.size e') := hi_ (by rw [hV]; exact HM1.out.below (below1 _ _))
  have HBV : Hid (Below W.heap.size W V) := hi_ (by rw [hV]; exact below_step HB1.out (below1 _ _))
  go_upto_region 2 with fail
  rw [← hV]
  clear hV HM1 HB1
  generalize w1.heap.size = ga at *
  have hq0 := hp0 V HBV.out
  have r0 : V.cell? ⟨w.heap.size + 1 + 1, 0, none⟩ = some (.int .i64 h) := (HR.out.below HBV.out HR.out.lt).cell 0
  have r1 : V.cell? ⟨w.heap.size + 1 + 1, 1, none⟩ = some (.int .i64 f) := (HR.out.below HBV.out HR.out.lt).cell 1
  go_wp2_with fail
  refine (HWd.out V HBV.out).mono ?_
  rintro r w2 ⟨rfl, hb2⟩
  have HG2 := hi_ (HGV.out.below hb2 HGV.out.lt)
  have HM2 := hi_ (HMV.out.below hb2)
  have HB2 := hi_ (below_step HBV.out hb2)
  clear hq0 r0 r1 hb2 HGV HMV HBV HWd hp0 hp1
  have r0 : w2.cell? ⟨w.heap.size + 1 + 1, 0, none⟩ = some (.int .i64 h) := (HR.out.below HB2.out HR.out.lt).cell 0
  have r1 : w2.cell? ⟨w.heap.size + 1 + 1, 1, none⟩ = some (.int .i64 f) := (HR.out.below HB2.out HR.out.lt).cell 1
  have k0 : w2.cell? ⟨ga, 0, none⟩ = some (.slice e'.valid.A e'.valid.l.length e'.valid.c) := HG2.out.cell 0
  have k1 : w2.cell? ⟨ga, 1, none⟩ = some (.slice e'.fields.A e'.fields.l.length e'.fields.c) := HG2.out.cell 1
  have k2 : w2.cell? ⟨ga, 2, none⟩ = some (.slice e'.metaV.A e'.metaV.l.length e'.metaV.c) := HG2.out.cell 2
  have k3 : w2.cell? ⟨ga, 3, none⟩ = some (.slice e'.payload.A e'.payload.l.length e'.payload.c) := HG2.out.cell 3
  go_wp2_with fail
  refine (element_any e' h f w2 HM2.out.ok).mono ?_
  rintro r w3 ⟨rfl, hb3⟩
  have HG3 := hi_ (HG2.out.below hb3 HG2.out.lt)
  have HM3 := hi_ (HM2.out.below hb3)
  have HB3 := hi_ (below_step HB2.out hb3)
  have HZ3 := hi_ (HZ.out.below HB3.out HZ.out.lt)
  clear r0 r1 k0 k1 k2 k3 hb3 HG2 HM2 HB2
  have hbe := HBe.out
  cases hb : elemB e' h f with
  | false =>
    have k0 : w3.cell? ⟨ga, 0, none⟩ = some (.slice e'.valid.A e'.valid.l.length e'.valid.c) := HG3.out.cell 0
    have k1 : w3.cell? ⟨ga, 1, none⟩ = some (.slice e'.fields.A e'.fields.l.length e'.fields.c) := HG3.out.cell 1
    have k2 : w3.cell? ⟨ga, 2, none⟩ = some (.slice e'.metaV.A e'.metaV.l.length e'.metaV.c) := HG3.out.cell 2
    have k3 : w3.cell? ⟨ga, 3, none⟩ = some (.slice e'.payload.A e'.payload.l.length e'.payload.c) := HG3.out.cell 3
    have z0 : w3.cell? ⟨w.heap.size + 1 + 1 + 1, 0, none⟩ = some (.slice none 0 0) := HZ3.out.cell 0
    have z1 : w3.cell? ⟨w.heap.size + 1 + 1 + 1, 1, none⟩ = some (.slice none 0 0) := HZ3.out.cell 1
    have z2 : w3.cell? ⟨w.heap.size + 1 + 1 + 1, 2, none⟩ = some (.slice none 0 0) := HZ3.out.cell 2
    have z3 : w3.cell? ⟨w.heap.size + 1 + 1 + 1, 3, none⟩ = some (.slice none 0 0) := HZ3.out.cell 3
    have zf : ∀ j, w3.frozen? ⟨w.heap.size + 1 + 1 + 1, j, none⟩ = false := fun j => HZ3.out.frozen j
    go_wp2
    try rw [Exit.noGoto_ret]
    try simp only [Exit.jump]
    refine bodyPost_ret (v := .agg #[.slice e'.valid.A e'.valid.l.length e'.valid.c, .slice e'.fields.A e'.fields.l.length e'.fields.c, .slice e'.metaV.A e'.metaV.l.length e'.metaV.c, .slice e'.payload.A e'.payload.l.length e'.payload.c]) ?_ rfl ?_
    · refine results_cell_row (fn := Tryz.f71) (p := 8) (ty := 56) rfl _ _ (w.heap.size + 1 + 1 + 1) 56 #[.slice e'.valid.A e'.valid.l.length e'.valid.c, .slice e'.fields.A e'.fields.l.length e'.fields.c, .slice e'.metaV.A e'.metaV.l.length e'.metaV.c, .slice e'.payload.A e'.payload.l.length e'.payload.c] (0, 0) _ rfl ?_ Tryz.underlying56 rfl (by kernel_rfl)
      exact (((HZ3.out.set_ 0 _).set_ 1 _).set_ 2 _).set_ 3 _
    · have hsz := HSz.out
      have hle : w.heap.size ≤ w.heap.size + 1 + 1 + 1 := by omega
      exact ⟨e', by rfl, by rw [← hbe]; exact (HSn.out e' (.inl hb)).symm, (HM3.out.four (by omega) _ _ _ _).lower (by omega), ((((below_step HW.out HB3.out).setCell hle _).setCell hle _).setCell hle _).setCell hle _⟩
  | true =>
  by_cases hw0 : wd = 0
  · have hgt : ¬ (0 : Int) < wd := by omega
    have hwv := hw0
    have k0 : w3.cell? ⟨ga, 0, none⟩ = some (.slice e'.valid.A e'.valid.l.length e'.valid.c) := HG3.out.cell 0
    have k1 : w3.cell? ⟨ga, 1, none⟩ = some (.slice e'.fields.A e'.fields.l.length e'.fields.c) := HG3.out.cell 1
    have k2 : w3.cell? ⟨ga, 2, none⟩ = some (.slice e'.metaV.A e'.metaV.l.length e'.metaV.c) := HG3.out.cell 2
    have k3 : w3.cell? ⟨ga, 3, none⟩ = some (.slice e'.payload.A e'.payload.l.length e'.payload.c) := HG3.out.cell 3
    have z0 : w3.cell? ⟨w.heap.size + 1 + 1 + 1, 0, none⟩ = some (.slice none 0 0) := HZ3.out.cell 0
    have z1 : w3.cell? ⟨w.heap.size + 1 + 1 + 1, 1, none⟩ = some (.slice none 0 0) := HZ3.out.cell 1
    have z2 : w3.cell? ⟨w.heap.size + 1 + 1 + 1, 2, none⟩ = some (.slice none 0 0) := HZ3.out.cell 2
    have z3 : w3.cell? ⟨w.heap.size + 1 + 1 + 1, 3, none⟩ = some (.slice none 0 0) := HZ3.out.cell 3
    have zf : ∀ j, w3.frozen? ⟨w.heap.size + 1 + 1 + 1, j, none⟩ = false := fun j => HZ3.out.frozen j
    go_wp2
    try rw [Exit.noGoto_ret]
    try simp only [Exit.jump]
    refine bodyPost_ret (v := .agg #[.slice e'.valid.A e'.valid.l.length e'.valid.c, .slice e'.fields.A e'.fields.l.length e'.fields.c, .slice e'.metaV.A e'.metaV.l.length e'.metaV.c, .slice e'.payload.A e'.payload.l.length e'.payload.c]) ?_ rfl ?_
    · refine results_cell_row (fn := Tryz.f71) (p := 8) (ty := 56) rfl _ _ (w.heap.size + 1 + 1 + 1) 56 #[.slice e'.valid.A e'.valid.l.length e'.valid.c, .slice e'.fields.A e'.fields.l.length e'.fields.c, .slice e'.metaV.A e'.metaV.l.length e'.metaV.c, .slice e'.payload.A e'.payload.l.length e'.payload.c] (0, 0) _ rfl ?_ Tryz.underlying56 rfl (by kernel_rfl)
      exact (((HZ3.out.set_ 0 _).set_ 1 _).set_ 2 _).set_ 3 _
    · have hsz := HSz.out
      have hle : w.heap.size ≤ w.heap.size + 1 + 1 + 1 := by omega
      exact ⟨e', by rfl, by rw [← hbe]; exact (HSn.out e' (.inr hwv)).symm, (HM3.out.four (by omega) _ _ _ _).lower (by omega), ((((below_step HW.out HB3.out).setCell hle _).setCell hle _).setCell hle _).setCell hle _⟩
  have hgt : (0 : Int) < wd := by omega
  have HGa3 := HG3
  obtain ⟨hfl, _⟩ := elem_true hb
  obtain ⟨gl, hA, hgl1, hgl2⟩ := (HM3.out.elem hb).at (fun e1 => by rw [e1] at hfl; cases hfl)
  have HGl : Hid (W.heap.size ≤ gl ∧ gl < ga) := hi_ (HOwn.out gl hA hb)
  have HCell : Hid (∀ u, EnvMine u W.heap.size e' → (∃ y : Int, u.cell? ⟨gl, f, none⟩ = some (.int .u32 y)) ∧ u.frozen? ⟨gl, f, none⟩ = false) := hi_ (fun u hu => by
    have ho := hu.elem hb
    have hfl2 := hfl
    generalize elemL e' h = q at ho hA hfl2
    obtain ⟨ql, qA, qc⟩ := q
    simp only at hA hfl2
    subst hA
    obtain ⟨g', o', e1, d1⟩ := ucell_at (ho.ok (fun _ => rfl)).1 hfl2
    simp only at e1
    injection e1 with e1
    injection e1 with e1 e2
    subst e1 e2
    rw [Nat.zero_add] at d1
    exact ⟨⟨_, d1⟩, ho.frozen f⟩)
  have HPut := hi_ (fun u (hu : EnvMine u W.heap.size e') x => hu.put hb hA x)
  have HSet := hi_ (HSs.out e' hb (by omega))
  have r1 : w3.cell? ⟨w.heap.size + 1 + 1, 1, none⟩ = some (.int .i64 f) := (HR.out.below HB3.out HR.out.lt).cell 1
  have r1d : w3.drew.cell? ⟨w.heap.size + 1 + 1, 1, none⟩ = some (.int .i64 (f : Nat)) := r1
  have hfi : (f : Int) < ((elemL e' h).l.length : Int) := by omega
  rw [hA]
  generalize (elemL e' h).l.length = qn at *
  generalize (elemL e' h).c = qc at *
  clear hA hgl1 hgl2 hfl
  go_upto_region 5 with fail
  refine wp_region_held_drew (S := fun w' => w'.cell? ⟨w.heap.size + 1 + 1, 1, none⟩ = some (.int .i64 (f : Nat))) (by kernel_rfl) r1d (fun hHeld => ?_)
  refine wpAnyH_take (i := 0) (oi := { dst := some 29, op := Op.move (Operand.tmp 11), type := 53, pos := "env.go:122", after := #[], guard := none }) (v := ?s0v) rfl (by kernel_rfl) (by kernel_rfl) (by kernel_rfl) (fun _ _ _ h => h) (Or.inl ⟨by rfl, ?s0y⟩) (by assumption) ?s0r
  case s0y => (intro w hSw; (try dsimp only at hSw); go_simp; try (with_reducible rfl))
  try simp only [Act.put, sA, sZ, sS]
  refine wpAnyH_take (i := 1) (oi := { dst := some 30, op := Op.fieldAddr 98 (Operand.tmp 6) 1, type := 0, pos := "env.go:122", after := #[], guard := none }) (v := ?s1v) rfl (by kernel_rfl) (by kernel_rfl) (by kernel_rfl) (fun _ _ _ h => h) (Or.inl ⟨by rfl, ?s1y⟩) (by assumption) ?s1r
  case s1y => (intro w hSw; (try dsimp only at hSw); go_simp; try (with_reducible rfl))
  try simp only [Act.put, sA, sZ, sS]
  refine wpAnyH_take (i := 2) (oi := { dst := some 31, op := Op.load 3 (Operand.tmp 30), type := 3, pos := "env.go:122", after := #[{ on := 1, ground := Ground.data }], guard := none }) (v := ?s2v) rfl (by kernel_rfl) (by kernel_rfl) (by kernel_rfl) (fun _ _ _ h => h) (Or.inl ⟨by rfl, ?s2y⟩) (by assumption) ?s2r
  case s2y => (intro w hSw; (try dsimp only at hSw); go_simp; try (with_reducible rfl))
  try simp only [Act.put, sA, sZ, sS]
  refine wpAnyH_take (i := 3) (oi := { dst := some 32, op := Op.move (Operand.tmp 3), type := 83, pos := "env.go:122", after := #[], guard := none }) (v := ?s3v) rfl (by kernel_rfl) (by kernel_rfl) (by kernel_rfl) (fun _ _ _ h => h) (Or.inl ⟨by rfl, ?s3y⟩) (by assumption) ?s3r
  case s3y => (intro w hSw; (try dsimp only at hSw); go_simp; try (with_reducible rfl))
  try simp only [Act.put, sA, sZ, sS]
  refine wpAnyH_take (i := 4) (oi := { dst := some 33, op := Op.move (Operand.tmp 10), type := 3, pos := "env.go:122", after := #[], guard := none }) (v := ?s4v) rfl (by kernel_rfl) (by kernel_rfl) (by kernel_rfl) (fun _ _ _ h => h) (Or.inl ⟨by rfl, ?s4y⟩) (by assumption) ?s4r
  case s4y => (intro w hSw; (try dsimp only at hSw); go_simp; try (with_reducible rfl))
  try simp only [Act.put, sA, sZ, sS]
  refine wpAnyH_ready (rs := [5]) (by kernel_rfl) (by simp) ?_
  refine AllReadyH.cons (o := { dst := some 34, op := Op.call { callee := Callee.value (Operand.func 110), args := #[Operand.tmp 33], argTypes := #[3] }, type := 83, pos := "env.go:122", after := #[{ on := 4, ground := Ground.data }], guard := none }) rfl (fun K hK => ?_) AllReadyH.nil
  go_simp
  go_at_call 110
  refine (mask_any wd _).mono ?_
  rintro r w6 ⟨rfl, hb6⟩
  have hb6' : Below w3.heap.size w3 w6 := below_step (below_drew (Below.refl _ _)) hb6
  have HM6 := hi_ (HM3.out.below hb6')
  have HB6 := hi_ (below_step HB3.out hb6')
  have hS6 : w6.cell? ⟨w.heap.size + 1 + 1, 1, none⟩ = some (.int .i64 (f : Nat)) := (HR.out.below HB6.out HR.out.lt).cell 1
  have HG6 := hi_ (HGa3.out.below hb6' HGa3.out.lt)
  refine hK.out _ _ hS6 (fun hHeld2 => ?_)
  clear hK K hb6 hb6' r1
  try simp only [Act.put, sA, sZ, sS]
  refine wpAnyH_take (i := 6) (oi := { dst := some 35, op := Op.binOp BinOp.and 83 (Operand.tmp 32) (Operand.tmp 34) 83, type := 83, pos := "env.go:122", after := #[{ on := 3, ground := Ground.data }, { on := 5, ground := Ground.data }], guard := none }) (v := ?s6v) rfl (by kernel_rfl) (by kernel_rfl) (by kernel_rfl) (fun _ _ _ h => h) (Or.inl ⟨by rfl, ?s6y⟩) (by assumption) ?s6r
  case s6y => (intro w hSw; (try dsimp only at hSw); go_simp; try (with_reducible rfl))
  try simp only [Act.put, sA, sZ, sS]
  refine wpAnyH_take (i := 7) (oi := { dst := some 36, op := Op.indexAddr 53 (Operand.tmp 29) (Operand.tmp 31), type := 0, pos := "env.go:122", after := #[{ on := 0, ground := Ground.data }, { on := 2, ground := Ground.data }, { on := 0, ground := Ground.phase }, { on := 1, ground := Ground.phase }, { on := 2, ground := Ground.phase }, { on := 3, ground := Ground.phase }, { on := 4, ground := Ground.phase }, { on := 5, ground := Ground.phase }, { on := 6, ground := Ground.phase }], guard := none }) (v := ?s7v) rfl (by kernel_rfl) (by kernel_rfl) (by kernel_rfl) (fun _ _ _ h => h) (Or.inl ⟨by rfl, ?s7y⟩) (by assumption) ?s7r
  case s7y => (intro w hSw; (try dsimp only at hSw); go_simp; try (with_reducible rfl))
  try simp only [Act.put, sA, sZ, sS]
  refine wpAnyH_ready (rs := [8]) (by kernel_rfl) (by simp) ?_
  refine AllReadyH.cons (o := { dst := none, op := Op.store 83 (Operand.tmp 36) (Operand.tmp 35), type := 0, pos := "env.go:122", after := #[{ on := 7, ground := Ground.data }, { on := 6, ground := Ground.data }, { on := 5, ground := Ground.chain }, { on := 0, ground := Ground.phase }, { on := 1, ground := Ground.phase }, { on := 2, ground := Ground.phase }, { on := 3, ground := Ground.phase }, { on := 4, ground := Ground.phase }, { on := 5, ground := Ground.phase }, { on := 6, ground := Ground.phase }], guard := none }) rfl (fun K hK => ?_) AllReadyH.nil
  obtain ⟨⟨y0, e0⟩, f0⟩ := HCell.out w6 HM6.out
  go_simp
  have hS7 : (w6.setCell ⟨gl, f, none⟩ (.int .u32 (bits .and .u32 v (maskM wd)))).cell? ⟨w.heap.size + 1 + 1, 1, none⟩ = some (.int .i64 (f : Nat)) := by
    rw [World.cell?_setCell_far _ _ _ _ (by show gl ≠ w.heap.size + 1 + 1; have := HGl.out; have := HSz.out; omega)]
    exact hS6
  refine hK.out _ _ hS7 (fun hHeld3 => ?_)
  clear hK K
  try simp only [Act.put, sA, sZ, sS]
  refine wpAnyH_done (by kernel_rfl) ?_ _
  have HB7 : Hid (Below W.heap.size W (w6.setCell ⟨gl, f, none⟩ (.int .u32 (bits .and .u32 v (maskM wd))))) := hi_ (HB6.out.setCell (by exact HGl.out.1) _)
  have HM7 := hi_ (HPut.out w6 HM6.out (bits .and .u32 v (maskM wd)))
  have HG7 := hi_ (HG6.out.far (p := ⟨gl, f, none⟩) (by show ga ≠ gl; have := HGl.out; omega) (.int .u32 (bits .and .u32 v (maskM wd))))
  have HZ7 := hi_ (HZ.out.below HB7.out HZ.out.lt)
  clear hHeld hHeld2 hHeld3 e0 f0 hS6 hS7 HM6 HB6 HG6 HM3 HG3 HB3 HZ3 HGa3
  generalize w6.setCell ⟨gl, f, none⟩ (.int .u32 (bits .and .u32 v (maskM wd))) = w7 at *
  have k0 : w7.cell? ⟨ga, 0, none⟩ = some (.slice e'.valid.A e'.valid.l.length e'.valid.c) := HG7.out.cell 0
  have k1 : w7.cell? ⟨ga, 1, none⟩ = some (.slice e'.fields.A e'.fields.l.length e'.fields.c) := HG7.out.cell 1
  have k2 : w7.cell? ⟨ga, 2, none⟩ = some (.slice e'.metaV.A e'.metaV.l.length e'.metaV.c) := HG7.out.cell 2
  have k3 : w7.cell? ⟨ga, 3, none⟩ = some (.slice e'.payload.A e'.payload.l.length e'.payload.c) := HG7.out.cell 3
  have z0 : w7.cell? ⟨w.heap.size + 1 + 1 + 1, 0, none⟩ = some (.slice none 0 0) := HZ7.out.cell 0
  have z1 : w7.cell? ⟨w.heap.size + 1 + 1 + 1, 1, none⟩ = some (.slice none 0 0) := HZ7.out.cell 1
  have z2 : w7.cell? ⟨w.heap.size + 1 + 1 + 1, 2, none⟩ = some (.slice none 0 0) := HZ7.out.cell 2
  have z3 : w7.cell? ⟨w.heap.size + 1 + 1 + 1, 3, none⟩ = some (.slice none 0 0) := HZ7.out.cell 3
  have zf : ∀ j, w7.frozen? ⟨w.heap.size + 1 + 1 + 1, j, none⟩ = false := fun j => HZ7.out.frozen j
  go_wp2
  try rw [Exit.noGoto_ret]
  try simp only [Exit.jump]
  refine bodyPost_ret (v := .agg #[.slice e'.valid.A e'.valid.l.length e'.valid.c, .slice e'.fields.A e'.fields.l.length e'.fields.c, .slice e'.metaV.A e'.metaV.l.length e'.metaV.c, .slice e'.payload.A e'.payload.l.length e'.payload.c]) ?_ rfl ?_
  · refine results_cell_row (fn := Tryz.f71) (p := 8) (ty := 56) rfl _ _ (w.heap.size + 1 + 1 + 1) 56 #[.slice e'.valid.A e'.valid.l.length e'.valid.c, .slice e'.fields.A e'.fields.l.length e'.fields.c, .slice e'.metaV.A e'.metaV.l.length e'.metaV.c, .slice e'.payload.A e'.payload.l.length e'.payload.c] (0, 0) _ rfl ?_ Tryz.underlying56 rfl (by kernel_rfl)
    exact (((HZ7.out.set_ 0 _).set_ 1 _).set_ 2 _).set_ 3 _
  · have hsz := HSz.out
    have hle : w.heap.size ≤ w.heap.size + 1 + 1 + 1 := by omega
    exact ⟨setD e' h f (bits .and .u32 v (maskM wd)), by rw [setD_cells], by rw [← hbe]; exact HSet.out, (HM7.out.four (by omega) _ _ _ _).lower (by omega), ((((below_step HW.out HB7.out).setCell hle _).setCell hle _).setCell hle _).setCell hle _⟩
theorem EnvMine.putV {w : World} {B : Nat} {e : EnvD} {gl : Nat} (o : EnvMine w B e) (hA : e.valid.A = some ⟨gl, 0, none⟩) (k : Nat) (b : Bool) : EnvMine (w.setCell ⟨gl, k, none⟩ (.bool b)) B ⟨⟨e.valid.l.set k b, e.valid.A, e.valid.c⟩, e.fields, e.metaV, e.payload⟩ := by
  obtain ⟨hv, hf, hx, hm, hp, ⟨vm, vp, mp, vf, mf, pf, xv, xm, xp, xf, xx⟩⟩ := o
  have hg : e.valid.v.ownBlock = some gl := by rw [L.v, hA]; rfl
  have far : ∀ {t : TypeId} {α : Type} {cells : α → List Value} {y : L α}, OwnL w B t cells y → AptB y.v e.valid.v → OwnL (w.setCell ⟨gl, k, none⟩ (.bool b)) B t cells y := fun {t α cells y} ho ha => ho.far _ (fun e1 => ha gl e1 hg)
  have hv2 : ∀ y : Value, AptB y e.valid.v → AptB y (⟨e.valid.l.set k b, e.valid.A, e.valid.c⟩ : L Bool).v := fun y ha b e1 e2 => ha b e1 (by rw [← e2]; simp only [L.v, hA]; rfl)
  refine ⟨?_, far hf (AptB.symm vf), fun y hy => far (hx y hy) (xv y hy), far hm (AptB.symm vm), far hp (AptB.symm vp), ⟨AptB.symm (hv2 _ (AptB.symm vm)), AptB.symm (hv2 _ (AptB.symm vp)), mp, AptB.symm (hv2 _ (AptB.symm vf)), mf, pf, fun y hy => hv2 _ (xv y hy), xm, xp, xf, xx⟩⟩
  have h4 := hv
  rcases hmv : e.valid with ⟨ml, mA, mc⟩
  rw [hmv] at h4 hA
  simp only at hA ⊢
  subst hA
  exact OwnL.put (fun b => .bool b) (fun _ => rfl) h4 k b
def lclr : Nat → Nat → List Int → List Int
  | 0, _, l => l
  | m + 1, o, l => lclr m (o + 1) (l.set o 0)
theorem lclr_len : ∀ (m o : Nat) (l : List Int), (lclr m o l).length = l.length
  | 0, _, _ => rfl
  | m + 1, o, l => by rw [lclr, lclr_len m, List.length_set]
theorem lclr_get : ∀ (m o : Nat) (l : List Int) (i : Nat), i < l.length → (lclr m o l)[i]? = if o ≤ i ∧ i < o + m then some 0 else l[i]?
  | 0, o, l, i, h => by rw [lclr, if_neg (by omega)]
  | m + 1, o, l, i, h => by
    rw [lclr, lclr_get m (o + 1) (l.set o 0) i (by rw [List.length_set]; exact h)]
    by_cases h1 : i = o
    · subst h1
      rw [if_neg (by omega), if_pos (by omega), List.getElem?_set_self h]
    · rw [List.getElem?_set_ne (by omega)]
      by_cases h2 : o ≤ i ∧ i < o + (m + 1)
      · rw [if_pos h2, if_pos (by omega)]
      · rw [if_neg h2, if_neg (by omega)]
theorem lclr_all (l : List Int) : lclr l.length 0 l = List.replicate l.length 0 := by
  refine List.ext_getElem? fun i => ?_
  by_cases h : i < l.length
  · rw [lclr_get _ _ _ _ h, if_pos (by omega), List.getElem?_replicate, if_pos h]
  · rw [List.getElem?_eq_none (by rw [lclr_len]; omega), List.getElem?_eq_none (by simp; omega)]
def turnD (e : EnvD) (k : Nat) (x : L Int) (l : List Int) : EnvD := ⟨e.valid, ⟨e.fields.l.set k ⟨l, x.A, x.c⟩, e.fields.A, e.fields.c⟩, e.metaV, e.payload⟩
theorem atU_at {e : EnvD} {k : Nat} (hk : k < e.fields.l.length) : atU e.fields k = e.fields.l[k] := by rw [atU, if_neg (by omega)]; simp [hk]
theorem elem_at {e : EnvD} {k f : Nat} {x : L Int} (hv : e.valid.l[k]? = some true) (hx : e.fields.l[k]? = some x) (hf : f < x.l.length) : elemB e k f = true ∧ elemL e k = x := by
  obtain ⟨hk, hx'⟩ := List.getElem?_eq_some_iff.1 hx
  have h1 : elemL e k = x := by rw [elemL, if_neg (by omega), atU_at hk, hx']
  refine ⟨?_, h1⟩
  unfold elemB
  rw [h1]
  have h2 : atB e.valid k = true := by rw [atB, if_neg (by omega)]; simp [hv]
  rw [h2]
  simp
  omega
theorem EnvMine.clear : ∀ (m o : Nat) {w : World} {B gl k : Nat} {e : EnvD} {x : L Int} {l : List Int}, EnvMine w B (turnD e k x l) → e.valid.l[k]? = some true → k < e.fields.l.length → x.A = some ⟨gl, 0, none⟩ → o + m ≤ l.length →
    EnvMine (w.setCells gl o (List.replicate m (.int .u32 0))) B (turnD e k x (lclr m o l))
  | 0, o, w, B, gl, k, e, x, l, h, hv, hk, hA, hm => h
  | m + 1, o, w, B, gl, k, e, x, l, h, hv, hk, hA, hm => by
    have hx : (turnD e k x l).fields.l[k]? = some ⟨l, x.A, x.c⟩ := by
      show (e.fields.l.set k _)[k]? = _
      rw [List.getElem?_set_self hk]
    obtain ⟨h1, h2⟩ := elem_at (e := turnD e k x l) (f := o) hv hx (by show o < l.length; omega)
    have h3 := h.put h1 (by rw [h2]; exact hA) 0
    have h4 : setD (turnD e k x l) k o 0 = turnD e k x (l.set o 0) := by
      rw [setD, if_neg (by omega)]
      rw [elemL, if_neg (by omega)] at h2
      rw [h2]
      simp [turnD]
    rw [h4] at h3
    rw [List.replicate_succ, World.setCells, lclr]
    exact EnvMine.clear m (o + 1) h3 hv hk hA (by rw [List.length_set]; omega)
theorem below_cells {w : World} {B gl : Nat} (hg : B ≤ gl) : ∀ (m o : Nat) {w1 : World}, Below B w w1 → Below B w (w1.setCells gl o (List.replicate m (.int .u32 0)))
  | 0, _, _, h => h
  | m + 1, o, w1, h => by
    rw [List.replicate_succ, World.setCells]
    exact below_cells hg m (o + 1) (h.setCell (p := ⟨gl, o, none⟩) (by exact hg) _)
theorem blk_cells_far {gl ga : Nat} {t : TypeId} {cs : Array Value} (hne : ga ≠ gl) : ∀ (m o : Nat) {w1 : World}, Blk w1 ga t cs → Blk (w1.setCells gl o (List.replicate m (.int .u32 0))) ga t cs
  | 0, _, _, h => h
  | m + 1, o, w1, h => by
    rw [List.replicate_succ, World.setCells]
    exact blk_cells_far hne m (o + 1) (h.far (by exact hne) _)
theorem zero_u32 (w : World) : (zeroValue 83).run Tryz.prog w = .ok (.int .u32 0) w := by kernel_rfl
theorem switched_any (p : ProgD) (e : EnvD) (k : Nat) (w : World) (hk : k < p.headers.l.length) (oe : EnvOk w e) (hf : EnvFit e.bare) (hkv : k < e.bare.valid.length) (hkf : k < e.bare.fields.length) :
    Calls Tryz.prog 107 #[.agg (progCells p), .agg (envCells e), .int .i64 k, .bool true, .bool true] w fun r w' => ∃ e', r = .returned (.agg (envCells e')) ∧ e'.bare = addE p e.bare k ∧ EnvMine w' w.heap.size e' ∧ Below w.heap.size w w' := by
  obtain ⟨W, hW⟩ : ∃ W, W = ((w.alloc (.cells (progCells p) 31)).alloc (.cells (envCells e) 56)).alloc (.cells #[.slice none 0 0, .slice none 0 0, .slice none 0 0, .slice none 0 0] 56) := ⟨_, rfl⟩
  have hw : Below w.heap.size w W := by rw [hW]; exact below3 _ _ _ _
  have HW := hi_ hw
  have HSz : Hid (W.heap.size = w.heap.size + 1 + 1 + 1) := hi_ (by rw [hW]; simp)
  have HP : Hid (Blk W w.heap.size 31 (progCells p)) := hi_ (by rw [hW]; exact ((Blk.new _ _ _).alloc _).alloc _)
  have HE : Hid (Blk W (w.heap.size + 1) 56 (envCells e)) := hi_ (by rw [hW]; exact (by simpa using Blk.new (w.alloc (.cells (progCells p) 31)) 56 (envCells e) : Blk _ (w.heap.size + 1) _ _).alloc _)
  have HZ : Hid (Blk W (w.heap.size + 1 + 1) 56 #[.slice none 0 0, .slice none 0 0, .slice none 0 0, .slice none 0 0]) := hi_ (by rw [hW]; simpa using Blk.new ((w.alloc (.cells (progCells p) 31)).alloc (.cells (envCells e) 56)) 56 #[.slice none 0 0, .slice none 0 0, .slice none 0 0, .slice none 0 0])
  have HCl := hi_ (envClone_any e W (oe.below hw) hf)
  have hq1 := blk_cells' (n := 4) HE.out W (Below.refl _ _)
  have HAd : Hid (addE p e.bare k = if e.bare.valid[k]? = some false then ⟨e.bare.valid.set k true, e.bare.fields.set k (List.replicate (e.bare.fields.getD k []).length 0), e.bare.metaV, e.bare.payload⟩ else e.bare) := hi_ (by
    unfold addE
    by_cases h : e.bare.valid[k]? = some false
    · rw [if_pos ⟨hk, h⟩, if_pos h]
    · rw [if_neg (fun h2 => h h2.2), if_neg h])
  generalize addE p e.bare k = RES at *
  clear oe hw
  have hfl := hf.fields
  have hvl := hf.valid
  clear hf
  go_enter Tryz.func107, Tryz.ntmps107
  go_upto_region 1 with fail
  rw [← hW]
  clear hW
  go_wp2_with fail
  refine HCl.out.mono ?_
  rintro r w1 ⟨e', rfl, hbe, hm, hb1⟩
  rw [← hbe] at HAd hkv hkf hfl hvl
  have HM1 := hi_ hm
  have HB1 := hi_ hb1
  clear hbe hm hb1 hq1 HCl HE
  have hkv' : k < e'.valid.l.length := hkv
  have hkf' : k < e'.fields.l.length := by have := hkf; simpa [EnvD.bare] using this
  have HOv : Hid (∀ gl, e'.valid.A = some ⟨gl, 0, none⟩ → W.heap.size ≤ gl ∧ gl < w1.heap.size) := hi_ (fun gl hA => HM1.out.valid.lt gl (by rw [L.v, hA]; rfl))
  have HOx : Hid (∀ gl, e'.fields.l[k].A = some ⟨gl, 0, none⟩ → W.heap.size ≤ gl ∧ gl < w1.heap.size) := hi_ (fun gl hA => (HM1.out.each _ (List.getElem_mem hkf')).lt gl (by rw [L.v, hA]; rfl))
  refine Exists.elim (⟨_, rfl⟩ : ∃ V, V = w1.alloc (.cells (envCells e') 56)) fun V hV => ?_
  have HGV : Hid (Blk V w1.heap.size 56 (envCells e')) := hi_ (by rw [hV]; exact Blk.new _ _ _)
  have HMV : Hid (EnvMine V W.heap.size e') := hi_ (by rw [hV]; exact HM1.out.below (below1 _ _))
  have HBV : Hid (Below W.heap.size W V) := hi_ (by rw [hV]; exact below_step HB1.out (below1 _ _))
  go_upto_region 2 with fail
  rw [← hV]
  clear hV HM1 HB1 hkv hkf
  generalize w1.heap.size = ga at *
  have HZV := hi_ (HZ.out.below HBV.out HZ.out.lt)
  obtain ⟨gv, hAv, hgv1, hgv2⟩ := HMV.out.valid.at (fun e1 => by rw [e1] at hkv'; cases hkv')
  have HGv := hi_ (HOv.out gv hAv)
  obtain ⟨b, hb⟩ : ∃ b, e'.valid.l[k]? = some b := ⟨_, List.getElem?_eq_getElem hkv'⟩
  have HVc : Hid (V.cell? ⟨gv, k, none⟩ = some (.bool b) ∧ V.frozen? ⟨gv, k, none⟩ = false) := hi_ (by
    have ho := HMV.out.valid
    have hk2 := hkv'
    have hb2 := hb
    generalize e'.valid = q at ho hAv hk2 hb2
    obtain ⟨ql, qA, qc⟩ := q
    simp only at hAv hk2 hb2
    subst hAv
    obtain ⟨g', o', e1, d1⟩ := bcell_at (ho.ok (fun _ => rfl)).1 hk2
    simp only at e1
    injection e1 with e1
    injection e1 with e1 e2
    subst e1 e2
    rw [Nat.zero_add] at d1
    rw [List.getElem?_eq_getElem hk2] at hb2
    injection hb2 with hb2
    exact ⟨by rw [← hb2]; exact d1, ho.frozen k⟩)
  have HPV := hi_ (fun x => HMV.out.putV hAv k x)
  have HHb := hi_ hb
  have HAv := hi_ hAv
  have hki : (k : Int) < (e'.valid.l.length : Int) := by omega
  have hkh : (k : Int) < (p.headers.l.length : Int) := by omega
  have hk0 : (0 : Int) ≤ (k : Int) := by omega
  have i1 : decide ((0 : Int) ≤ (k : Int)) = true := decide_eq_true hk0
  have i2 : decide ((k : Int) < (p.headers.l.length : Int)) = true := decide_eq_true hkh
  have i3 : decide ((k : Int) < (e'.valid.l.length : Int)) = true := decide_eq_true hki
  have hI1 : Hid (Calls Tryz.prog 156 #[.slice p.headers.A p.headers.l.length p.headers.c, .int .i64 k] V fun e w' => e = .returned (.bool true) ∧ V = w') := hi_ (by have := inB_hdr p.headers k V; rw [i1, i2] at this; exact this)
  have hI2 : Hid (Calls Tryz.prog 157 #[.slice e'.valid.A e'.valid.l.length e'.valid.c, .int .i64 k] V fun e w' => e = .returned (.bool true) ∧ V = w') := hi_ (by have := inB_bool e'.valid k V; rw [i1, i3] at this; exact this)
  rw [hAv] at hI2
  clear hAv hgv1 hgv2 hb i1 i2 i3
  have h1 : V.cell? ⟨w.heap.size, 1, none⟩ = some (.slice p.headers.A p.headers.l.length p.headers.c) := (HP.out.below HBV.out HP.out.lt).cell 1
  have m0' : V.cell? ⟨ga, 0, none⟩ = some (.slice e'.valid.A e'.valid.l.length e'.valid.c) := HGV.out.cell 0
  have m0 : V.cell? ⟨ga, 0, none⟩ = some (.slice (some ⟨gv, 0, none⟩) e'.valid.l.length e'.valid.c) := by rw [m0', HAv.out]
  clear m0'
  have c0 := HVc.out.1
  go_wp2_with fail
  refine hI1.out.mono ?_
  rintro r w' ⟨rfl, rfl⟩
  go_wp2_with fail
  refine hI2.out.mono ?_
  rintro r w' ⟨rfl, rfl⟩
  cases b with
  | true =>
    have HAd2 : Hid (RES = e'.bare) := hi_ (HAd.out.trans (if_neg (fun h => by have h2 : e'.valid.l[k]? = some false := h; rw [HHb.out] at h2; cases h2)))
    go_upto_region 3 with fail
    clear h1 m0 c0
    have k0 : V.cell? ⟨ga, 0, none⟩ = some (.slice e'.valid.A e'.valid.l.length e'.valid.c) := HGV.out.cell 0
    have k1 : V.cell? ⟨ga, 1, none⟩ = some (.slice e'.fields.A e'.fields.l.length e'.fields.c) := HGV.out.cell 1
    have k2 : V.cell? ⟨ga, 2, none⟩ = some (.slice e'.metaV.A e'.metaV.l.length e'.metaV.c) := HGV.out.cell 2
    have k3 : V.cell? ⟨ga, 3, none⟩ = some (.slice e'.payload.A e'.payload.l.length e'.payload.c) := HGV.out.cell 3
    have z0 : V.cell? ⟨w.heap.size + 1 + 1, 0, none⟩ = some (.slice none 0 0) := HZV.out.cell 0
    have z1 : V.cell? ⟨w.heap.size + 1 + 1, 1, none⟩ = some (.slice none 0 0) := HZV.out.cell 1
    have z2 : V.cell? ⟨w.heap.size + 1 + 1, 2, none⟩ = some (.slice none 0 0) := HZV.out.cell 2
    have z3 : V.cell? ⟨w.heap.size + 1 + 1, 3, none⟩ = some (.slice none 0 0) := HZV.out.cell 3
    have zf : ∀ j, V.frozen? ⟨w.heap.size + 1 + 1, j, none⟩ = false := fun j => HZV.out.frozen j
    go_wp2
    try rw [Exit.noGoto_ret]
    try simp only [Exit.jump]
    refine bodyPost_ret (v := .agg #[.slice e'.valid.A e'.valid.l.length e'.valid.c, .slice e'.fields.A e'.fields.l.length e'.fields.c, .slice e'.metaV.A e'.metaV.l.length e'.metaV.c, .slice e'.payload.A e'.payload.l.length e'.payload.c]) ?_ rfl ?_
    · refine results_cell_row (fn := Tryz.f107) (p := 10) (ty := 56) rfl _ _ (w.heap.size + 1 + 1) 56 #[.slice e'.valid.A e'.valid.l.length e'.valid.c, .slice e'.fields.A e'.fields.l.length e'.fields.c, .slice e'.metaV.A e'.metaV.l.length e'.metaV.c, .slice e'.payload.A e'.payload.l.length e'.payload.c] (0, 0) _ rfl ?_ Tryz.underlying56 rfl (by kernel_rfl)
      exact (((HZV.out.set_ 0 _).set_ 1 _).set_ 2 _).set_ 3 _
    · have hsz := HSz.out
      have hle : w.heap.size ≤ w.heap.size + 1 + 1 := by omega
      exact ⟨e', rfl, HAd2.out.symm, (HMV.out.four (by omega) _ _ _ _).lower (by omega), ((((below_step HW.out HBV.out).setCell hle _).setCell hle _).setCell hle _).setCell hle _⟩
  | false =>
  have HAd2 : Hid (RES = ⟨e'.bare.valid.set k true, e'.bare.fields.set k (List.replicate (e'.bare.fields.getD k []).length 0), e'.bare.metaV, e'.bare.payload⟩) := hi_ (HAd.out.trans (if_pos HHb.out))
  have cf := HVc.out.2
  go_upto_region 5 with fail
  clear h1 c0 cf m0
  refine Exists.elim (⟨_, rfl⟩ : ∃ U, U = V.setCell ⟨gv, k, none⟩ (.bool true)) fun U hU => ?_
  have HMU := HPV.out true
  rw [← hU] at HMU
  have HGU : Hid (Blk U ga 56 (envCells e')) := hi_ (by rw [hU]; exact HGV.out.far (by show ga ≠ gv; have := HGv.out; omega) _)
  have HBU : Hid (Below W.heap.size W U) := hi_ (by rw [hU]; exact HBV.out.setCell (by exact HGv.out.1) _)
  have HMU2 := hi_ HMU
  rw [← hU]
  clear hU HMU HPV HVc hI1 hI2
  have hx0 := List.getElem?_eq_getElem hkf'
  have HUx : Hid (atU e'.fields k = e'.fields.l[k]) := hi_ (atU_at hkf')
  have HLf : Hid (LOk U 1 lcell e'.fields) := hi_ (HMU2.out.fields.ok (fun _ => rfl)).1
  have m1 : U.cell? ⟨ga, 1, none⟩ = some (.slice e'.fields.A e'.fields.l.length e'.fields.c) := HGU.out.cell 1
  go_wp2_with fail
  refine (at_u32s e'.fields k U HLf.out).mono ?_
  rintro r w' ⟨rfl, rfl⟩
  rw [HUx.out]
  clear m1
  have HX := hi_ hx0
  obtain ⟨x, hx⟩ : ∃ x, x = e'.fields.l[k] := ⟨_, rfl⟩
  rw [← hx] at HX HOx ⊢
  have hxl : x.l.length ≤ 1000 ∨ True := .inr trivial
  have HBare : Hid ((⟨⟨e'.valid.l.set k true, e'.valid.A, e'.valid.c⟩, ⟨e'.fields.l.set k ⟨List.replicate x.l.length 0, x.A, x.c⟩, e'.fields.A, e'.fields.c⟩, e'.metaV, e'.payload⟩ : EnvD).bare = RES) := hi_ (by
    rw [HAd2.out]
    show EnvP.mk _ _ _ _ = EnvP.mk _ _ _ _
    have h9 : e'.bare.fields.getD k [] = x.l := by
      show ((e'.fields.l.map L.l).getD k []) = x.l
      rw [List.getD_eq_getElem?_getD, List.getElem?_map, HX.out]; rfl
    rw [h9]
    show EnvP.mk _ ((e'.fields.l.set k _).map L.l) _ _ = _
    rw [List.map_set]
    rfl)
  have HT0 : Hid (turnD ⟨⟨e'.valid.l.set k true, e'.valid.A, e'.valid.c⟩, e'.fields, e'.metaV, e'.payload⟩ k x x.l = ⟨⟨e'.valid.l.set k true, e'.valid.A, e'.valid.c⟩, e'.fields, e'.metaV, e'.payload⟩) := hi_ (by
    unfold turnD
    have h9 : e'.fields.l.set k ⟨x.l, x.A, x.c⟩ = e'.fields.l := by
      refine List.ext_getElem? fun i => ?_
      by_cases hi : i = k
      · subst hi; rw [List.getElem?_set_self hkf', HX.out]
      · rw [List.getElem?_set_ne (by omega)]
    simp only [h9])
  have HVt : Hid ((e'.valid.l.set k true)[k]? = some true) := hi_ (by rw [List.getElem?_set_self hkv'])
  have HEnd : Hid (∀ u, EnvMine u W.heap.size (turnD ⟨⟨e'.valid.l.set k true, e'.valid.A, e'.valid.c⟩, e'.fields, e'.metaV, e'.payload⟩ k x (List.replicate x.l.length 0)) → ∃ ee, envCells ee = envCells e' ∧ ee.bare = RES ∧ EnvMine u W.heap.size ee) := hi_ (fun u hu => ⟨_, by simp [envCells], HBare.out, hu⟩)
  clear hx hx0 HUx HLf
  by_cases hn : x.l.length = 0
  · have hcl : ∀ ty, (Builtin.clear_ #[53] ty #[.slice x.A x.l.length x.c]).run Tryz.prog U = .ok (.tuple #[]) U := fun ty => by
      rw [hn]
      cases x.A <;> simp [Builtin.clear_, run_underlying Tryz.underlying53]
    obtain ⟨ee, hee1, hee2, hee3⟩ := HEnd.out U (by
      have h9 : List.replicate x.l.length (0 : Int) = x.l := by rw [hn]; exact (List.eq_nil_of_length_eq_zero hn).symm
      rw [h9, HT0.out]; exact HMU2.out)
    have HEE := hi_ (And.intro hee1 (And.intro hee2 hee3))
    have HM9 := hi_ hee3
    have HZ9 := hi_ (HZ.out.below HBU.out HZ.out.lt)
    clear hee1 hee2 hee3 hn
    go_upto_region 6 with fail
    clear hcl
    have k0 : U.cell? ⟨ga, 0, none⟩ = some (.slice e'.valid.A e'.valid.l.length e'.valid.c) := HGU.out.cell 0
    have k1 : U.cell? ⟨ga, 1, none⟩ = some (.slice e'.fields.A e'.fields.l.length e'.fields.c) := HGU.out.cell 1
    have k2 : U.cell? ⟨ga, 2, none⟩ = some (.slice e'.metaV.A e'.metaV.l.length e'.metaV.c) := HGU.out.cell 2
    have k3 : U.cell? ⟨ga, 3, none⟩ = some (.slice e'.payload.A e'.payload.l.length e'.payload.c) := HGU.out.cell 3
    have z0 : U.cell? ⟨w.heap.size + 1 + 1, 0, none⟩ = some (.slice none 0 0) := HZ9.out.cell 0
    have z1 : U.cell? ⟨w.heap.size + 1 + 1, 1, none⟩ = some (.slice none 0 0) := HZ9.out.cell 1
    have z2 : U.cell? ⟨w.heap.size + 1 + 1, 2, none⟩ = some (.slice none 0 0) := HZ9.out.cell 2
    have z3 : U.cell? ⟨w.heap.size + 1 + 1, 3, none⟩ = some (.slice none 0 0) := HZ9.out.cell 3
    have zf : ∀ j, U.frozen? ⟨w.heap.size + 1 + 1, j, none⟩ = false := fun j => HZ9.out.frozen j
    go_wp2
    try rw [Exit.noGoto_ret]
    try simp only [Exit.jump]
    refine bodyPost_ret (v := .agg #[.slice e'.valid.A e'.valid.l.length e'.valid.c, .slice e'.fields.A e'.fields.l.length e'.fields.c, .slice e'.metaV.A e'.metaV.l.length e'.metaV.c, .slice e'.payload.A e'.payload.l.length e'.payload.c]) ?_ rfl ?_
    · refine results_cell_row (fn := Tryz.f107) (p := 10) (ty := 56) rfl _ _ (w.heap.size + 1 + 1) 56 #[.slice e'.valid.A e'.valid.l.length e'.valid.c, .slice e'.fields.A e'.fields.l.length e'.fields.c, .slice e'.metaV.A e'.metaV.l.length e'.metaV.c, .slice e'.payload.A e'.payload.l.length e'.payload.c] (0, 0) _ rfl ?_ Tryz.underlying56 rfl (by kernel_rfl)
      exact (((HZ9.out.set_ 0 _).set_ 1 _).set_ 2 _).set_ 3 _
    · have hsz := HSz.out
      have hle : w.heap.size ≤ w.heap.size + 1 + 1 := by omega
      exact ⟨ee, by rw [HEE.out.1], HEE.out.2.1, (HM9.out.four (by omega) _ _ _ _).lower (by omega), ((((below_step HW.out HBU.out).setCell hle _).setCell hle _).setCell hle _).setCell hle _⟩
  · have hA9 : ∃ gl, x.A = some ⟨gl, 0, none⟩ := by
      have ho := HMU2.out.each x (List.mem_of_getElem? HX.out)
      obtain ⟨gl, h9, _⟩ := ho.at (fun e1 => hn (by rw [e1]; rfl))
      exact ⟨gl, h9⟩
    obtain ⟨gl, hA9⟩ := hA9
    have HGl := hi_ (HOx.out gl hA9)
    have HOw := hi_ (HMU2.out.each x (List.mem_of_getElem? HX.out))
    have HCl : Hid (EnvMine (U.setCells gl 0 (List.replicate x.l.length (.int .u32 0))) W.heap.size (turnD ⟨⟨e'.valid.l.set k true, e'.valid.A, e'.valid.c⟩, e'.fields, e'.metaV, e'.payload⟩ k x (lclr x.l.length 0 x.l))) := hi_ (EnvMine.clear (l := x.l) (x := x) x.l.length 0 (by rw [HT0.out]; exact HMU2.out) HVt.out hkf' hA9 (by omega))
    rw [lclr_all] at HCl
    have hcl : ∀ ty, (Builtin.clear_ #[53] ty #[.slice (some ⟨gl, 0, none⟩) x.l.length x.c]).run Tryz.prog U = .ok (.tuple #[]) (U.setCells gl 0 (List.replicate x.l.length (.int .u32 0))) := by
      have ho := HOw.out
      have hA8 := hA9
      clear hA9
      generalize x = q at ho hA8 hn
      obtain ⟨ql, qA, qc⟩ := q
      simp only at hA8 hn
      subst hA8
      exact fun ty => Lib.run_clear_slice U _ _ ty _ Tryz.underlying53 zero_u32 rfl rfl gl 0 ql.length qc (by omega) (fun j hj => by
        obtain ⟨g', o', e1, d1⟩ := ucell_at (ho.ok (fun _ => rfl)).1 hj
        simp only at e1
        injection e1 with e1
        injection e1 with e1 e2
        subst e1 e2
        rw [d1]; rfl) (fun j hj => by rw [Nat.zero_add]; exact ho.frozen j)
    obtain ⟨ee, hee1, hee2, hee3⟩ := HEnd.out _ HCl.out
    have HEE := hi_ (And.intro hee1 hee2)
    have HM9 := hi_ hee3
    have HG9 := hi_ (blk_cells_far (gl := gl) (ga := ga) (fun e1 => by have := HGl.out.2; omega) x.l.length 0 HGU.out)
    have HB9 := hi_ (below_cells (w := W) (B := W.heap.size) (gl := gl) HGl.out.1 x.l.length 0 HBU.out)
    have HZ9 := hi_ (HZ.out.below HB9.out HZ.out.lt)
    rw [hA9]
    generalize x.l.length = xn at *
    generalize x.c = xc at *
    clear hee1 hee2 hee3 hn hA9 HCl HOw
    go_upto_region 6 with fail
    clear hcl
    generalize U.setCells gl 0 (List.replicate xn (.int .u32 0)) = u9 at *
    have k0 : u9.cell? ⟨ga, 0, none⟩ = some (.slice e'.valid.A e'.valid.l.length e'.valid.c) := HG9.out.cell 0
    have k1 : u9.cell? ⟨ga, 1, none⟩ = some (.slice e'.fields.A e'.fields.l.length e'.fields.c) := HG9.out.cell 1
    have k2 : u9.cell? ⟨ga, 2, none⟩ = some (.slice e'.metaV.A e'.metaV.l.length e'.metaV.c) := HG9.out.cell 2
    have k3 : u9.cell? ⟨ga, 3, none⟩ = some (.slice e'.payload.A e'.payload.l.length e'.payload.c) := HG9.out.cell 3
    have z0 : u9.cell? ⟨w.heap.size + 1 + 1, 0, none⟩ = some (.slice none 0 0) := HZ9.out.cell 0
    have z1 : u9.cell? ⟨w.heap.size + 1 + 1, 1, none⟩ = some (.slice none 0 0) := HZ9.out.cell 1
    have z2 : u9.cell? ⟨w.heap.size + 1 + 1, 2, none⟩ = some (.slice none 0 0) := HZ9.out.cell 2
    have z3 : u9.cell? ⟨w.heap.size + 1 + 1, 3, none⟩ = some (.slice none 0 0) := HZ9.out.cell 3
    have zf : ∀ j, u9.frozen? ⟨w.heap.size + 1 + 1, j, none⟩ = false := fun j => HZ9.out.frozen j
    go_wp2
    try rw [Exit.noGoto_ret]
    try simp only [Exit.jump]
    refine bodyPost_ret (v := .agg #[.slice e'.valid.A e'.valid.l.length e'.valid.c, .slice e'.fields.A e'.fields.l.length e'.fields.c, .slice e'.metaV.A e'.metaV.l.length e'.metaV.c, .slice e'.payload.A e'.payload.l.length e'.payload.c]) ?_ rfl ?_
    · refine results_cell_row (fn := Tryz.f107) (p := 10) (ty := 56) rfl _ _ (w.heap.size + 1 + 1) 56 #[.slice e'.valid.A e'.valid.l.length e'.valid.c, .slice e'.fields.A e'.fields.l.length e'.fields.c, .slice e'.metaV.A e'.metaV.l.length e'.metaV.c, .slice e'.payload.A e'.payload.l.length e'.payload.c] (0, 0) _ rfl ?_ Tryz.underlying56 rfl (by kernel_rfl)
      exact (((HZ9.out.set_ 0 _).set_ 1 _).set_ 2 _).set_ 3 _
    · have hsz := HSz.out
      have hle : w.heap.size ≤ w.heap.size + 1 + 1 := by omega
      exact ⟨ee, by rw [HEE.out.1], HEE.out.2, (HM9.out.four (by omega) _ _ _ _).lower (by omega), ((((below_step HW.out HB9.out).setCell hle _).setCell hle _).setCell hle _).setCell hle _⟩
theorem addHeader_any (p : ProgD) (e : EnvD) (k : Nat) (w : World) (hk : k < p.headers.l.length) (oe : EnvOk w e) (hf : EnvFit e.bare) (hkv : k < e.bare.valid.length) (hkf : k < e.bare.fields.length) :
    Calls Tryz.prog 70 #[.agg (progCells p), .agg (envCells e), .int .i64 k] w fun r w' => ∃ e', r = .returned (.agg (envCells e')) ∧ e'.bare = addE p e.bare k ∧ EnvMine w' w.heap.size e' ∧ Below w.heap.size w w' := by
  obtain ⟨W, hW⟩ : ∃ W, W = ((w.alloc (.cells (progCells p) 31)).alloc (.cells (envCells e) 56)).alloc (.cells #[.slice none 0 0, .slice none 0 0, .slice none 0 0, .slice none 0 0] 56) := ⟨_, rfl⟩
  have hw : Below w.heap.size w W := by rw [hW]; exact below3 _ _ _ _
  have HW := hi_ hw
  have HSz : Hid (W.heap.size = w.heap.size + 1 + 1 + 1) := hi_ (by rw [hW]; simp)
  have HP : Hid (Blk W w.heap.size 31 (progCells p)) := hi_ (by rw [hW]; exact ((Blk.new _ _ _).alloc _).alloc _)
  have HE : Hid (Blk W (w.heap.size + 1) 56 (envCells e)) := hi_ (by rw [hW]; exact (by simpa using Blk.new (w.alloc (.cells (progCells p) 31)) 56 (envCells e) : Blk _ (w.heap.size + 1) _ _).alloc _)
  have HZ : Hid (Blk W (w.heap.size + 1 + 1) 56 #[.slice none 0 0, .slice none 0 0, .slice none 0 0, .slice none 0 0]) := hi_ (by rw [hW]; simpa using Blk.new ((w.alloc (.cells (progCells p) 31)).alloc (.cells (envCells e) 56)) 56 #[.slice none 0 0, .slice none 0 0, .slice none 0 0, .slice none 0 0])
  have HS := hi_ (switched_any p e k W hk (oe.below hw) hf hkv hkf)
  have hq0 := And.intro (blk_cells' (n := 9) HP.out W (Below.refl _ _)) (blk_cells' (n := 4) HE.out W (Below.refl _ _))
  generalize addE p e.bare k = RES at *
  clear oe hw hf hkv hkf
  go_enter Tryz.func70, Tryz.ntmps70
  go_upto_region 1 with fail
  rw [← hW]
  clear hW
  go_wp2_with fail
  refine HS.out.mono ?_
  rintro r w1 ⟨e', rfl, hbe, hm, hb1⟩
  have HM := hi_ hm
  have HB := hi_ hb1
  have HZ1 := hi_ (HZ.out.below hb1 HZ.out.lt)
  have HBe := hi_ hbe
  clear hbe hm hb1 hq0
  have z0 : w1.cell? ⟨w.heap.size + 1 + 1, 0, none⟩ = some (.slice none 0 0) := HZ1.out.cell 0
  have z1 : w1.cell? ⟨w.heap.size + 1 + 1, 1, none⟩ = some (.slice none 0 0) := HZ1.out.cell 1
  have z2 : w1.cell? ⟨w.heap.size + 1 + 1, 2, none⟩ = some (.slice none 0 0) := HZ1.out.cell 2
  have z3 : w1.cell? ⟨w.heap.size + 1 + 1, 3, none⟩ = some (.slice none 0 0) := HZ1.out.cell 3
  have zf : ∀ j, w1.frozen? ⟨w.heap.size + 1 + 1, j, none⟩ = false := fun j => HZ1.out.frozen j
  go_wp2
  try rw [Exit.noGoto_ret]
  try simp only [Exit.jump]
  refine bodyPost_ret (v := .agg #[.slice e'.valid.A e'.valid.l.length e'.valid.c, .slice e'.fields.A e'.fields.l.length e'.fields.c, .slice e'.metaV.A e'.metaV.l.length e'.metaV.c, .slice e'.payload.A e'.payload.l.length e'.payload.c]) ?_ rfl ?_
  · refine results_cell_row (fn := Tryz.f70) (p := 6) (ty := 56) rfl _ _ (w.heap.size + 1 + 1) 56 #[.slice e'.valid.A e'.valid.l.length e'.valid.c, .slice e'.fields.A e'.fields.l.length e'.fields.c, .slice e'.metaV.A e'.metaV.l.length e'.metaV.c, .slice e'.payload.A e'.payload.l.length e'.payload.c] (0, 0) _ rfl ?_ Tryz.underlying56 rfl (by kernel_rfl)
    exact (((HZ1.out.set_ 0 _).set_ 1 _).set_ 2 _).set_ 3 _
  · have hsz := HSz.out
    have hle : w.heap.size ≤ w.heap.size + 1 + 1 := by omega
    exact ⟨e', rfl, HBe.out, (HM.out.four (by omega) _ _ _ _).lower (by omega), ((((below_step HW.out HB.out).setCell hle _).setCell hle _).setCell hle _).setCell hle _⟩
def ConLOk (w : World) (x : ConD) : Prop := LOkN w 1 ucell x.c8 ∧ LOkN w 1 ucell x.c16 ∧ LOkN w 1 ucell x.c32
theorem ConLOk.list {w : World} {x : ConD} (h : ConLOk w x) (z : Int) : LOkN w 1 ucell (conL x z) := by
  unfold conL
  split
  · exact h.1
  · split
    · exact h.2.1
    · exact h.2.2
theorem ConLOk.below {w w' : World} {x : ConD} (h : ConLOk w x) (hb : Below w.heap.size w w') : ConLOk w' x := ⟨h.1.below hb, h.2.1.below hb, h.2.2.below hb⟩
theorem con_cell' {w : World} {g : Nat} {x : ConD} (h : Blk w g 64 #[.slice x.c8.A x.c8.l.length x.c8.c, .slice x.c16.A x.c16.l.length x.c16.c, .slice x.c32.A x.c32.l.length x.c32.c]) (z : Int) : w.cell? ⟨g, cix z, none⟩ = some (.slice (conL x z).A (conL x z).l.length (conL x z).c) := by
  rw [h.cell]
  unfold cix conL
  split
  · rfl
  · split <;> rfl
theorem pget_any (x : ConD) (s : SlotD) (g : Nat) (w : World) (hb : Blk w g 64 #[.slice x.c8.A x.c8.l.length x.c8.c, .slice x.c16.A x.c16.l.length x.c16.c, .slice x.c32.A x.c32.l.length x.c32.c]) (hx : ConLOk w x) :
    Calls Tryz.prog 68 #[.pointer (some ⟨g, 0, none⟩), .agg #[.int .i64 s.size, .int .i64 s.index, .int .i64 s.off, .int .i64 s.width]] w fun r w' => r = .returned (.int .u32 (getC x.bare s)) ∧ Below w.heap.size w w' := by
  have HG : Hid (getC x.bare s = if validS s = true ∧ s.index < ((ofC x.bare s.size).length : Int) then getI ((ofC x.bare s.size).getD s.index.toNat 0) s else 0) := hi_ rfl
  have HL : Hid ((conL x s.size).l = ofC x.bare s.size) := hi_ (conL_l x s.size)
  rw [← HL.out] at HG
  obtain ⟨V, hV⟩ : ∃ V, V = w.alloc (.cells #[.int .i64 s.size, .int .i64 s.index, .int .i64 s.off, .int .i64 s.width] 48) := ⟨_, rfl⟩
  have HS : Hid (Blk V w.heap.size 48 #[.int .i64 s.size, .int .i64 s.index, .int .i64 s.off, .int .i64 s.width]) := hi_ (by rw [hV]; exact Blk.new _ _ _)
  have HwV : Hid (Below w.heap.size w V) := hi_ (by rw [hV]; exact below1 _ _)
  have HK := hi_ (hb.below HwV.out hb.lt)
  have HX := hi_ (hx.below HwV.out)
  clear hb hx
  have HMk := hi_ (fun hv u => pmask_any s hv u)
  have HGi : Hid (∀ y, getI y s = bits .and .u32 y (maskS s) / 2 ^ s.off.toNat) := hi_ (fun _ => rfl)
  obtain ⟨z, i, f, d⟩ := s
  simp only at HG HS HK hV HMk HGi ⊢
  have s0 : V.cell? ⟨w.heap.size, 0, none⟩ = some (.int .i64 z) := HS.out.cell 0
  have s1 : V.cell? ⟨w.heap.size, 1, none⟩ = some (.int .i64 i) := HS.out.cell 1
  have s2 : V.cell? ⟨w.heap.size, 2, none⟩ = some (.int .i64 f) := HS.out.cell 2
  have s3 : V.cell? ⟨w.heap.size, 3, none⟩ = some (.int .i64 d) := HS.out.cell 3
  generalize getC x.bare ⟨z, i, f, d⟩ = R at *
  go_enter Tryz.func68, Tryz.ntmps68
  go_upto_region 1 with fail
  rw [← hV]
  clear hV
  go_wp2_with fail
  refine (valid_any z i f d V).mono ?_
  rintro r w1 ⟨rfl, hb1⟩
  have HS1 := hi_ (HS.out.below hb1 HS.out.lt)
  have HK1 := hi_ (HK.out.below hb1 HK.out.lt)
  have HX1 := hi_ (HX.out.below hb1)
  have HB1 := hi_ (below_step HwV.out hb1)
  clear s0 s1 s2 s3 hb1 HS HK HX HwV
  cases hv : validS ⟨z, i, f, d⟩ with
  | false =>
    have HR : Hid (R = 0) := hi_ (by rw [HG.out, hv]; simp)
    clear HG hv HMk
    go_wp2
    go_ret
    exact ⟨by rw [HR.out]; rfl, HB1.out⟩
  | true =>
  have s0 : w1.cell? ⟨w.heap.size, 0, none⟩ = some (.int .i64 z) := HS1.out.cell 0
  have s1 : w1.cell? ⟨w.heap.size, 1, none⟩ = some (.int .i64 i) := HS1.out.cell 1
  have hbs := validS_iff.1 hv
  simp only at hbs
  have c0 := con_cell' HK1.out z
  have HLz := hi_ (HX1.out.list z)
  go_wp2_with fail
  refine (clist_any g z w1).mono ?_
  rintro r w' ⟨rfl, rfl⟩
  clear HL
  generalize conL x z = q at *
  obtain ⟨ql, qA, qc⟩ := q
  simp only at c0 HLz HG
  obtain ⟨k, rfl⟩ : ∃ k : Nat, i = k := ⟨i.toNat, by omega⟩
  by_cases hk : k < ql.length
  case neg =>
    have hk' : (ql.length : Int) ≤ (k : Int) := by omega
    have HR : Hid (R = 0) := hi_ (by rw [HG.out, if_neg (by omega)])
    clear HG hv HMk hbs
    go_wp2
    go_ret
    exact ⟨by rw [HR.out]; rfl, HB1.out⟩
  obtain ⟨gl, ol, hA, d0⟩ := ucell_atA HLz.out.1 hk
  simp only at hA d0
  subst hA
  have HR : Hid (R = getI ql[k] ⟨z, (k : Int), f, d⟩) := hi_ (by rw [HG.out, if_pos ⟨hv, by omega⟩]; simp [List.getD_eq_getElem?_getD, hk])
  rw [HGi.out] at HR
  have HM2 := hi_ (fun u => HMk.out hv u)
  have hk' : (k : Int) < (ql.length : Int) := by omega
  have hf0 : 0 ≤ f := hbs.2.2.2.1
  have hf1 : f ≤ 32 := by omega
  have hq1 := fun u (h : Below w1.heap.size w1 u) => (HS1.out.below h HS1.out.lt).cell 1
  have hq2 := fun u (h : Below w1.heap.size w1 u) => (HS1.out.below h HS1.out.lt).cell 2
  have hq0 := fun u (h : Below w1.heap.size w1 u) => (HS1.out.below h HS1.out.lt).cell 0
  have hq3 := fun u (h : Below w1.heap.size w1 u) => (HS1.out.below h HS1.out.lt).cell 3
  simp only [List.getElem?_toArray, List.getElem?_cons_zero, List.getElem?_cons_succ] at hq0 hq1 hq2 hq3
  clear HG hv HMk hbs HGi HLz
  generalize ql[k] = y at *
  generalize maskS ⟨z, (k : Int), f, d⟩ = mk at *
  have H0 := hi_ (Below.refl w1.heap.size w1)
  go_upto_region 6 with fail
  clear s0 s1 c0
  go_region_held3 (fun w' => Below w1.heap.size w1 w') (first | exact H0.out | exact below_drew H0.out | (exact below_step (by assumption) (by assumption)) | assumption)
    (first | (go_at_call 103; refine (HM2.out _).mono ?_; rintro r w5 ⟨rfl, hb1⟩))
  have HB5 : Hid (Below w1.heap.size w1 _) := hi_ (by assumption)
  go_wp2
  go_ret
  exact ⟨by rw [HR.out]; rfl, below_step HB1.out HB5.out⟩
end Go.Proofs.YtbfjknidinkafaaGreat
